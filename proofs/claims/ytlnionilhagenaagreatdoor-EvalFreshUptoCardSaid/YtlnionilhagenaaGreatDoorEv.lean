/- Printed by gen.py (my own program): Lean functions with the answers of the Go functions, and the proofs that the code comes to them. -/
import Derived.Test.YtlnionilhagenaaGreatDoorOrder
import Derived.Test.YtlnionilhagenaaGreatDoorMake
import Derived.Test.YtlnionilhagenaaGreatDoorName
namespace Go.Proofs.YtlnionilhagenaaGreatDoor
open Go.RowKit
set_option linter.all false
set_option maxRecDepth 100000
set_option maxHeartbeats 4000000
theorem Tryz.mixedEv : Tryz.prog.follows .mixedOrders = true := by kernel_rfl

/- cadence/eval.Vars -/
def s_Ev_Vars_l0 (S : St) (x2 : ((List Int) × Int)) : Nat → Int → (List Vl) → Option ((List Vl) × Int)
  | 0, _, _ => none
  | c7_k + 1, c7_0, c7_2 =>
    cond (decide (c7_0 < (x2.1.length : Int)))
      ((getI x2.1 c7_0).bind fun x9 =>
      (s_St_Node S x9).bind fun x10 =>
      cond (x10.1.Op == 4)
        (if (c7_2.length + 1) * 32 ≤ 140737488355328 then (s_Ev_Vars_l0 S x2 c7_k (IntKind.i64.wrap (c7_0 + 1)) (c7_2 ++ [(⟨x10.1.Name, x10.1.W, 0⟩ : Vl)])) else none)
        (s_Ev_Vars_l0 S x2 c7_k (IntKind.i64.wrap (c7_0 + 1)) c7_2))
      (some (c7_2, 0))
def s_Ev_Vars (k : Nat) (S : St) (roots : List Int) : Option ((List Vl) × Int) :=
  (s_St_Order k S roots).bind fun x2 =>
  cond (x2.2 != 0)
    (some (([] : List Vl), x2.2))
    (s_Ev_Vars_l0 S x2 k 0 ([] : List Vl))
theorem t_Ev_Vars {k : Nat} {p0 : Nat} {v_1 : Value} {S : St} {roots : List Int} {r : (List Vl) × Int}
    (hs : s_Ev_Vars k S roots = some r) :
    TriX Tryz.prog 9 [.pointer (some ⟨p0, 0, none⟩), v_1] [stAt p0 S, slc 3 1 v_1 roots.length (fl ic roots)] (.ok r) faultV (fun (a_ : (List Vl) × Int) (c : Value) => .tuple #[c, .int .i64 a_.2]) (fun a_ c => [stAt p0 S, slc 3 1 v_1 roots.length (fl ic roots), slc 35 3 c a_.1.length (fl Vl.cells a_.1)]) := by
  unfold s_Ev_Vars at hs
  refine TriX.of Tryz.func9 rfl Tryz.ntmps9 Tryz.results9 rfl (fun w0 F => ?_)
  refine WP.seq ?_
  refine WP.region ?_
  refine WO.heap [stAt p0 S, slc 3 1 v_1 roots.length (fl ic roots), F, slc 35 3 (nils 1) ([] : List Vl).length (fl Vl.cells ([] : List Vl))] (fun _ s => s.addNil 35 3 1) ?_
  refine WO.val (PO.assign (v := (nils 1)) rfl) rfl ?_
  refine WO.val (PO.assign rfl) rfl ?_
  refine WO.nil ?_
  refine WP.seq ?_
  refine WP.seq ?_
  refine WP.region ?_
  refine WO.val (PO.move rfl) rfl ?_
  refine WO.val (PO.eqlPN rfl rfl Tryz.runUnderlying23) rfl ?_
  refine WO.nil ?_
  refine WP.condF rfl ?_
  refine WP.skip ?_
  refine WP.seq ?_
  refine WP.region ?_
  refine WO.val (PO.move rfl) rfl ?_
  refine WO.val (PO.move rfl) rfl ?_
  obtain ⟨x2, hx2, hs⟩ := bind_elim hs
  refine WO.step (SO.of rfl (EO.callX [0, 1] Tryz.call26 rfl rfl (t_St_Order hx2) (fun _ => ⟨rfl, rfl, trivial⟩))) rfl ?_
  rintro _ _ ⟨v3, rfl, rfl⟩
  refine WO.toL [stAt p0 S, slc 3 1 v_1 roots.length (fl ic roots), F, slc 35 3 (nils 1) ([] : List Vl).length (fl Vl.cells ([] : List Vl)), slc 3 1 v3 x2.1.length (fl ic x2.1)] rfl ?_
  refine WO.val (PO.move rfl) rfl ?_
  refine WO.val (PO.extract rfl rfl) rfl ?_
  refine WO.val (PO.extract rfl rfl) rfl ?_
  refine WO.val (PO.assign rfl) rfl ?_
  refine WO.val (PO.assign rfl) rfl ?_
  refine WO.nil ?_
  refine WP.seq ?_
  refine WP.seq ?_
  refine WP.region ?_
  refine WO.val (PO.move rfl) rfl ?_
  refine WO.val (PO.neq rfl rfl) rfl ?_
  refine WO.nil ?_
  refine WP.cond rfl (fun h4 => ?_) (fun h4 => ?_)
  · replace hs := cond_t h4 hs
    refine WP.seq ?_
    refine WP.region ?_
    refine WO.val (PO.move rfl) rfl ?_
    refine WO.heap [stAt p0 S, slc 3 1 v_1 roots.length (fl ic roots), F, slc 35 3 (nils 1) ([] : List Vl).length (fl Vl.cells ([] : List Vl)), slc 3 1 v3 x2.1.length (fl ic x2.1), slc 35 3 (nils 5) ([] : List Vl).length (fl Vl.cells ([] : List Vl))] (fun _ s => s.addNil 35 3 5) ?_
    refine WO.val (PO.assign (v := (nils 5)) rfl) rfl ?_
    refine WO.val (PO.assign rfl) rfl ?_
    refine WO.nil ?_
    refine WP.ret ?_
    obtain rfl := Option.some.inj hs
    exact ⟨_, (nils 5), _, _, rfl, Res.two (RV.tmp rfl) (RV.tmp rfl), rfl, fun _ s => Sat.out [0, 1, 5, 2] rfl s⟩
  · replace hs := cond_f h4 hs
    refine WP.skip ?_
    refine WP.seq ?_
    refine WP.region ?_
    refine WO.heap [stAt p0 S, slc 3 1 v_1 roots.length (fl ic roots), F, slc 35 3 (nils 1) ([] : List Vl).length (fl Vl.cells ([] : List Vl)), slc 3 1 v3 x2.1.length (fl ic x2.1), slc 35 3 (nils 6) ([] : List Vl).length (fl Vl.cells ([] : List Vl))] (fun _ s => s.addNil 35 3 6) ?_
    refine WO.val (PO.assign (v := (nils 6)) rfl) rfl ?_
    refine WO.nil ?_
    refine WP.seq ?_
    refine WP.seq ?_
    refine WP.region ?_
    refine WO.val (PO.move rfl) rfl ?_
    refine WO.val (PO.lenL 4 rfl Tryz.runUnderlying24 rfl) rfl ?_
    refine WO.val (PO.move rfl) rfl ?_
    refine WO.nil ?_
    refine WP.block ?_
    refine WP.loopG (fun c7_k f_ L_ => ∃ (c7_0 : Int) (c7_1 : Value) (c7_2 : List Vl), Holds f_ [(0, .pointer (some ⟨p0, 0, none⟩)), (4, (nils 1)), (5, .int .i64 0), (8, c7_1), (24, v3), (25, .int .i64 (x2.1.length : Int)), (26, .int .i64 c7_0)] ∧ L_ = [stAt p0 S, slc 3 1 v_1 roots.length (fl ic roots), F, slc 35 3 (nils 1) ([] : List Vl).length (fl Vl.cells ([] : List Vl)), slc 3 1 v3 x2.1.length (fl ic x2.1), slc 35 3 c7_1 c7_2.length (fl Vl.cells c7_2)] ∧ s_Ev_Vars_l0 S x2 c7_k c7_0 c7_2 = some r) k ⟨0, (nils 6), ([] : List Vl), ⟨rfl, rfl, rfl, rfl, rfl, rfl, rfl, trivial⟩, rfl, hs⟩ ?_
    rintro c7_k f_ L_ ⟨c7_0, c7_1, c7_2, hf_, rfl, hs⟩
    refine WP.keep [(0, .pointer (some ⟨p0, 0, none⟩)), (4, (nils 1)), (5, .int .i64 0), (8, c7_1), (24, v3), (25, .int .i64 (x2.1.length : Int)), (26, .int .i64 c7_0)] hf_ ?_
    cases c7_k with
    | zero => exact nomatch (show none = some r from hs)
    | succ c7_k =>
      rw [s_Ev_Vars_l0.eq_2] at hs
      refine WP.seq ?_
      refine WP.region ?_
      refine WO.val (PO.lss rfl rfl) rfl ?_
      refine WO.nil ?_
      refine WP.seq ?_
      refine WP.cond rfl (fun h8 => ?_) (fun h8 => ?_)
      · replace hs := cond_t h8 hs
        refine WP.skip ?_
        refine WP.seq ?_
        refine WP.block ?_
        refine WP.seq ?_
        refine WP.region ?_
        obtain ⟨x9, hx9, hs⟩ := bind_elim hs
        refine WO.val (PO.idxL 4 rfl rfl Tryz.runUnderlying24 Tryz.sizeOf3 rfl hx9) rfl ?_
        refine WO.val (PO.loadL 4 rfl Tryz.isAgg3 rfl (fl_at (c := ic) (k := 1) (j := 0) (fun _ => rfl) hx9 rfl)) rfl ?_
        refine WO.val (PO.assign rfl) rfl ?_
        refine WO.nil ?_
        refine WP.seq ?_
        refine WP.region ?_
        refine WO.val (PO.move rfl) rfl ?_
        refine WO.val (PO.move rfl) rfl ?_
        obtain ⟨x10, hx10, hs⟩ := bind_elim hs
        refine WO.vo (VO.call1 0 Tryz.call15 rfl rfl (t_St_Node hx10)) rfl ?_
        refine WO.val (PO.move rfl) rfl ?_
        refine WO.val (PO.extract rfl rfl) rfl ?_
        refine WO.val (PO.extract rfl rfl) rfl ?_
        refine WO.step (SO.of rfl (EO.alloc Tryz.zeroValue45)) rfl ?_
        rintro _ _ ⟨b11, rfl, rfl⟩
        refine WO.toL [stAt p0 S, slc 3 1 v_1 roots.length (fl ic roots), F, slc 35 3 (nils 1) ([] : List Vl).length (fl Vl.cells ([] : List Vl)), slc 3 1 v3 x2.1.length (fl ic x2.1), slc 35 3 c7_1 c7_2.length (fl Vl.cells c7_2), pt b11 (.cells #[.int .i64 0, .int .i64 0, .int .i64 0, .int .i64 0, .int .i64 0, .int .u64 0, .string (ByteArray.mk #[])] 45 (0, 0))] rfl ?_
        refine WO.step (SO.of rfl (EO.store 6 _ rfl rfl Tryz.sizeOf45 rfl rfl rfl rfl)) rfl ?_
        rintro _ _ rfl
        refine WO.toL [stAt p0 S, slc 3 1 v_1 roots.length (fl ic roots), F, slc 35 3 (nils 1) ([] : List Vl).length (fl Vl.cells ([] : List Vl)), slc 3 1 v3 x2.1.length (fl ic x2.1), slc 35 3 c7_1 c7_2.length (fl Vl.cells c7_2), pt b11 (.cells #[.int .i64 x10.1.Op, .int .i64 x10.1.W, .int .i64 x10.1.A, .int .i64 x10.1.B, .int .i64 x10.1.C, .int .u64 x10.1.Num, .string x10.1.Name] 45 (0, 0))] rfl ?_
        refine WO.val (PO.assign rfl) rfl ?_
        refine WO.nil ?_
        refine WP.seq ?_
        refine WP.region ?_
        refine WO.val (PO.fieldAddr rfl Tryz.runUnderlying45 rfl Tryz.sizeOf3 rfl) rfl ?_
        refine WO.val (PO.load 6 rfl Tryz.isAgg3 rfl rfl) rfl ?_
        refine WO.val (PO.eql rfl rfl) rfl ?_
        refine WO.nil ?_
        refine WP.cond rfl (fun h12 => ?_) (fun h12 => ?_)
        · replace hs := cond_t h12 hs
          refine WP.region ?_
          refine WO.val (PO.move rfl) rfl ?_
          refine WO.val (PO.fieldAddr rfl Tryz.runUnderlying45 rfl Tryz.sizeOf9 rfl) rfl ?_
          refine WO.val (PO.load 6 rfl Tryz.isAgg9 rfl rfl) rfl ?_
          refine WO.val (PO.fieldAddr rfl Tryz.runUnderlying45 rfl Tryz.sizeOf3 rfl) rfl ?_
          refine WO.val (PO.load 6 rfl Tryz.isAgg3 rfl rfl) rfl ?_
          refine WO.val (PO.build (v := .agg #[.string x10.1.Name, .int .i64 x10.1.W, .int .u64 0]) rfl (fun w => by simp [Instr.build, Instr.fill, Value.cells, addr_add', Tryz.zeroValue35, Tryz.runUnderlying35, Tryz.sizeOf3, Tryz.sizeOf9, Tryz.sizeOf33])) rfl ?_
          refine WO.step (SO.of rfl (EO.buildSlice1 rfl Tryz.runUnderlying27 Tryz.sizeOf35 Tryz.zeroValue35 rfl rfl rfl rfl)) rfl ?_
          rintro _ _ ⟨b13, rfl, rfl⟩
          refine WO.toL [stAt p0 S, slc 3 1 v_1 roots.length (fl ic roots), F, slc 35 3 (nils 1) ([] : List Vl).length (fl Vl.cells ([] : List Vl)), slc 3 1 v3 x2.1.length (fl ic x2.1), slc 35 3 c7_1 c7_2.length (fl Vl.cells c7_2), pt b11 (.cells #[.int .i64 x10.1.Op, .int .i64 x10.1.W, .int .i64 x10.1.A, .int .i64 x10.1.B, .int .i64 x10.1.C, .int .u64 x10.1.Num, .string x10.1.Name] 45 (0, 0)), pt b13 (.cells #[.string x10.1.Name, .int .i64 x10.1.W, .int .u64 0] 35 (0, 0))] rfl ?_
          obtain ⟨hc14, hs⟩ := check_elim hs
          refine WO.step (SO.of rfl (EO.appendL (c := Vl.cells) (a := (⟨x10.1.Name, x10.1.W, 0⟩ : Vl)) 5 7 (fun _ => rfl) Tryz.typeInfo35 rfl rfl rfl rfl Tryz.runUnderlying27 Tryz.underlying27 rfl rfl rfl rfl rfl rfl rfl rfl hc14)) rfl ?_
          rintro v15 _ rfl
          refine WO.toL [stAt p0 S, slc 3 1 v_1 roots.length (fl ic roots), F, slc 35 3 (nils 1) ([] : List Vl).length (fl Vl.cells ([] : List Vl)), slc 3 1 v3 x2.1.length (fl ic x2.1), slc 35 3 v15 (c7_2 ++ [(⟨x10.1.Name, x10.1.W, 0⟩ : Vl)]).length (fl Vl.cells (c7_2 ++ [(⟨x10.1.Name, x10.1.W, 0⟩ : Vl)])), pt b11 (.cells #[.int .i64 x10.1.Op, .int .i64 x10.1.W, .int .i64 x10.1.A, .int .i64 x10.1.B, .int .i64 x10.1.C, .int .u64 x10.1.Num, .string x10.1.Name] 45 (0, 0)), pt b13 (.cells #[.string x10.1.Name, .int .i64 x10.1.W, .int .u64 0] 35 (0, 0))] rfl ?_
          refine WO.val (PO.assign rfl) rfl ?_
          refine WO.nil ?_
          refine WP.region ?_
          refine WO.val (PO.add rfl rfl) rfl ?_
          refine WO.val (PO.move rfl) rfl ?_
          refine WO.nil ?_
          exact ⟨c7_k, _, Nat.lt_succ_self _, ⟨(IntKind.i64.wrap (c7_0 + 1)), v15, (c7_2 ++ [(⟨x10.1.Name, x10.1.W, 0⟩ : Vl)]), ⟨rfl, rfl, rfl, rfl, rfl, rfl, rfl, trivial⟩, rfl, hs⟩, fun _ s => s.pre⟩
        · replace hs := cond_f h12 hs
          refine WP.skip ?_
          refine WP.region ?_
          refine WO.val (PO.add rfl rfl) rfl ?_
          refine WO.val (PO.move rfl) rfl ?_
          refine WO.nil ?_
          exact ⟨c7_k, _, Nat.lt_succ_self _, ⟨(IntKind.i64.wrap (c7_0 + 1)), c7_1, c7_2, ⟨rfl, rfl, rfl, rfl, rfl, rfl, rfl, trivial⟩, rfl, hs⟩, fun _ s => s.pre⟩
      · replace hs := cond_f h8 hs
        refine WP.exit (inX.hit ?_)
        refine WP.seq ?_
        refine WP.region ?_
        refine WO.val (PO.move rfl) rfl ?_
        refine WO.val (PO.assign rfl) rfl ?_
        refine WO.val (PO.assign rfl) rfl ?_
        refine WO.nil ?_
        refine WP.ret ?_
        obtain rfl := Option.some.inj hs
        exact ⟨_, c7_1, _, _, rfl, Res.two (RV.tmp rfl) (RV.tmp rfl), rfl, fun _ s => Sat.out [0, 1, 5, 2] rfl s⟩
attribute [irreducible] s_Ev_Vars

/- cadence/eval.names -/
def s_Ev_names_l0 (l : List ByteArray) (k : Nat) : Nat → Int → (List (ByteArray × Int)) → Option (Int)
  | 0, _, _ => none
  | c2_k + 1, c2_0, c2_1 =>
    cond (decide (c2_0 < (l.length : Int)))
      ((getI l c2_0).bind fun x4 =>
      (opt (!(decide (1 < ((mget (mput c2_1 x4 (IntKind.i64.wrap (((mget c2_1 x4).getD 0) + 1))) x4).getD 0)))) (s_Name k x4) false).bind fun x7 =>
      cond ((decide (1 < ((mget (mput c2_1 x4 (IntKind.i64.wrap (((mget c2_1 x4).getD 0) + 1))) x4).getD 0))) || (!x7))
        (some 72)
        (s_Ev_names_l0 l k c2_k (IntKind.i64.wrap (c2_0 + 1)) (mput c2_1 x4 (IntKind.i64.wrap (((mget c2_1 x4).getD 0) + 1)))))
      (some 0)
def s_Ev_names (k : Nat) (l : List ByteArray) : Option (Int) :=
  s_Ev_names_l0 l k k 0 ([])
theorem t_Ev_names {k : Nat} {v_0 : Value} {l : List ByteArray} {r : Int}
    (hs : s_Ev_names k l = some r) :
    TriX Tryz.prog 27 [v_0] [slc 9 1 v_0 l.length (fl sc l)] (.ok r) faultV (fun (a_ : Int) (_ : Unit) => .int .i64 a_) (fun a_ _ => [slc 9 1 v_0 l.length (fl sc l)]) := by
  unfold s_Ev_names at hs
  refine TriX.of Tryz.func27 rfl Tryz.ntmps27 Tryz.results27 rfl (fun w0 F => ?_)
  refine WP.seq ?_
  refine WP.region ?_
  refine WO.val (PO.assign rfl) rfl ?_
  refine WO.nil ?_
  refine WP.seq ?_
  refine WP.region ?_
  refine WO.val (PO.move rfl) rfl ?_
  refine WO.val (PO.lenL 0 rfl Tryz.runUnderlying41 rfl) rfl ?_
  refine WO.step (SO.of rfl (EO.makeMapN (kv := sv) (vv := iv) rfl Tryz.runUnderlying69)) rfl ?_
  rintro _ _ ⟨b1, rfl, rfl⟩
  refine WO.toL [slc 9 1 v_0 l.length (fl sc l), F, mapAt sv iv b1 ([])] rfl ?_
  refine WO.val (PO.assign rfl) rfl ?_
  refine WO.nil ?_
  refine WP.seq ?_
  refine WP.seq ?_
  refine WP.region ?_
  refine WO.val (PO.move rfl) rfl ?_
  refine WO.val (PO.lenL 0 rfl Tryz.runUnderlying41 rfl) rfl ?_
  refine WO.val (PO.move rfl) rfl ?_
  refine WO.nil ?_
  refine WP.block ?_
  refine WP.loopG (fun c2_k f_ L_ => ∃ (c2_0 : Int) (c2_1 : List (ByteArray × Int)), Holds f_ [(2, .int .i64 0), (3, .map (some b1)), (9, v_0), (10, .int .i64 (l.length : Int)), (11, .int .i64 c2_0)] ∧ L_ = [slc 9 1 v_0 l.length (fl sc l), F, mapAt sv iv b1 c2_1] ∧ s_Ev_names_l0 l k c2_k c2_0 c2_1 = some r) k ⟨0, [], ⟨rfl, rfl, rfl, rfl, rfl, trivial⟩, rfl, hs⟩ ?_
  rintro c2_k f_ L_ ⟨c2_0, c2_1, hf_, rfl, hs⟩
  refine WP.keep [(2, .int .i64 0), (3, .map (some b1)), (9, v_0), (10, .int .i64 (l.length : Int)), (11, .int .i64 c2_0)] hf_ ?_
  cases c2_k with
  | zero => exact nomatch (show none = some r from hs)
  | succ c2_k =>
    rw [s_Ev_names_l0.eq_2] at hs
    refine WP.seq ?_
    refine WP.region ?_
    refine WO.val (PO.lss rfl rfl) rfl ?_
    refine WO.nil ?_
    refine WP.seq ?_
    refine WP.cond rfl (fun h3 => ?_) (fun h3 => ?_)
    · replace hs := cond_t h3 hs
      refine WP.skip ?_
      refine WP.seq ?_
      refine WP.block ?_
      refine WP.seq ?_
      refine WP.region ?_
      obtain ⟨x4, hx4, hs⟩ := bind_elim hs
      refine WO.val (PO.idxL 0 rfl rfl Tryz.runUnderlying41 Tryz.sizeOf9 rfl hx4) rfl ?_
      refine WO.val (PO.loadL 0 rfl Tryz.isAgg9 rfl (fl_at (c := sc) (k := 1) (j := 0) (fun _ => rfl) hx4 rfl)) rfl ?_
      refine WO.val (PO.assign rfl) rfl ?_
      refine WO.nil ?_
      refine WP.seq ?_
      refine WP.region ?_
      refine WO.val (PO.move rfl) rfl ?_
      refine WO.val (PO.move rfl) rfl ?_
      refine WO.val (PO.lookup1 (a := x4) (z := 0) 2 str_key rfl rfl Tryz.runUnderlying69 Tryz.zeroValue3 rfl) rfl ?_
      refine WO.val (PO.add rfl rfl) rfl ?_
      refine WO.step (SO.of rfl (EO.mapUpdate (a := x4) (b := (IntKind.i64.wrap (((mget c2_1 x4).getD 0) + 1))) 2 _ str_key rfl rfl rfl Tryz.runUnderlying69 rfl rfl)) rfl ?_
      rintro _ _ rfl
      refine WO.toL [slc 9 1 v_0 l.length (fl sc l), F, mapAt sv iv b1 (mput c2_1 x4 (IntKind.i64.wrap (((mget c2_1 x4).getD 0) + 1)))] rfl ?_
      refine WO.nil ?_
      refine WP.seq ?_
      refine WP.regionG (D := [some 19, some 20, some 21, some 22, some 23, some 24, some 25, some 26, some 27]) rfl ?_
      refine WO.val (PO.move rfl) rfl ?_
      refine WO.val (PO.move rfl) rfl ?_
      refine WO.val (PO.lookup1 (a := x4) (z := 0) 2 str_key rfl rfl Tryz.runUnderlying69 Tryz.zeroValue3 rfl) rfl ?_
      refine WO.val (PO.gtr rfl rfl) rfl ?_
      refine WO.val (PO.move rfl) rfl ?_
      refine WO.guardF rfl rfl (fun hg5 => (PO.move rfl).vo) rfl ?_
      obtain ⟨x7, hx7, hs⟩ := bind_elim hs
      refine WO.guardF rfl rfl (fun hg6 => VO.call0 Tryz.call35 (evs_cons (evg hg6 rfl) evs_nil) (t_Name (opt_t hx7 hg6))) rfl ?_
      refine WO.guardF rfl rfl (fun hg8 => (PO.not (evg hg8 rfl)).vo) rfl ?_
      refine WO.val (PO.pickO rfl rfl rfl) rfl ?_
      refine WO.nil ?_
      refine WP.cond rfl (fun h9 => ?_) (fun h9 => ?_)
      · replace hs := cond_t h9 hs
        refine WP.seq ?_
        refine WP.region ?_
        refine WO.val (PO.assign rfl) rfl ?_
        refine WO.nil ?_
        refine WP.ret ?_
        obtain rfl := Option.some.inj hs
        exact ⟨_, (), _, _, rfl, Res.one (RV.tmp rfl), rfl, fun _ s => Sat.out [0, 1] rfl s⟩
      · replace hs := cond_f h9 hs
        refine WP.skip ?_
        refine WP.region ?_
        refine WO.val (PO.add rfl rfl) rfl ?_
        refine WO.val (PO.move rfl) rfl ?_
        refine WO.nil ?_
        exact ⟨c2_k, _, Nat.lt_succ_self _, ⟨(IntKind.i64.wrap (c2_0 + 1)), (mput c2_1 x4 (IntKind.i64.wrap (((mget c2_1 x4).getD 0) + 1))), ⟨rfl, rfl, rfl, rfl, rfl, trivial⟩, rfl, hs⟩, fun _ s => s.pre⟩
    · replace hs := cond_f h3 hs
      refine WP.exit (inX.hit ?_)
      refine WP.seq ?_
      refine WP.region ?_
      refine WO.val (PO.assign rfl) rfl ?_
      refine WO.nil ?_
      refine WP.ret ?_
      obtain rfl := Option.some.inj hs
      exact ⟨_, (), _, _, rfl, Res.one (RV.tmp rfl), rfl, fun _ s => Sat.out [0, 1] rfl s⟩
attribute [irreducible] s_Ev_names

/- cadence/eval.one -/
def s_Ev_one (b : Bool) : Int :=
  cond b
    (1)
    (0)
theorem t_Ev_one {b : Bool} {r : Int}
    (hs : s_Ev_one b = r) :
    TriV Tryz.prog 59 [.bool b] [] (.int .u64 r) [] := by
  unfold s_Ev_one at hs
  refine TriL.of Tryz.func59 rfl Tryz.ntmps59 Tryz.results59 rfl (fun w0 F => ?_)
  refine WP.seq ?_
  refine WP.region ?_
  refine WO.val (PO.assign rfl) rfl ?_
  refine WO.nil ?_
  refine WP.seq ?_
  refine WP.seq ?_
  refine WP.region ?_
  refine WO.val (PO.move rfl) rfl ?_
  refine WO.nil ?_
  refine WP.cond rfl (fun h1 => ?_) (fun h1 => ?_)
  · replace hs := cond_t h1 hs
    refine WP.seq ?_
    refine WP.region ?_
    refine WO.val (PO.assign rfl) rfl ?_
    refine WO.nil ?_
    refine WP.ret ?_
    cases hs
    exact ⟨_, _, _, Res.one (RV.tmp rfl), ⟨rfl, rfl⟩, fun _ s => s⟩
  · replace hs := cond_f h1 hs
    refine WP.skip ?_
    refine WP.seq ?_
    refine WP.region ?_
    refine WO.val (PO.assign rfl) rfl ?_
    refine WO.nil ?_
    refine WP.ret ?_
    cases hs
    exact ⟨_, _, _, Res.one (RV.tmp rfl), ⟨rfl, rfl⟩, fun _ s => s⟩
attribute [irreducible] s_Ev_one

/- cadence/eval.node -/
def s_Ev_node (String : Nd) (String' : Int) (n : Int) (a : Int) (b : Int) (c : Int) : Option (Int) :=
  cond (String.Op == 1)
    (some 1)
    (cond (String.Op == 2)
      (some 0)
      (cond (String.Op == 3)
        (some String.Num)
        (cond (String.Op == 5)
          (some (IntKind.u64.wrap (1 - String')))
          (cond (String.Op == 6)
            (some (bits .and .u64 String' n))
            (cond (String.Op == 7)
              (some (bits .or .u64 String' n))
              (cond (String.Op == 8)
                (some (bits .xor .u64 String' n))
                (cond (String.Op == 9)
                  (lt (s_Ev_one (String' == n)) fun x10 =>
                  some x10)
                  (cond (decide (String.Op ≤ 13))
                    ((s_Cmp String.Op b String' n).bind fun x12 =>
                    lt (s_Ev_one x12.1) fun x13 =>
                    some x13)
                    (cond (String.Op == 14)
                      (cond (String' == 1)
                        (some n)
                        (some a))
                      (cond (decide (String.Op ≤ 16))
                        (lt (s_Un String.Op String.W String') fun x17 =>
                        some x17.1)
                        (cond (decide (String.Op ≤ 29))
                          ((s_Bin String.Op String.W String' n).bind fun x19 =>
                          some x19.1)
                          (cond (String.Op == 30)
                            ((s_Cat b String' c n).bind fun x21 =>
                            some x21.1)
                            (cond (String.Op == 31)
                              ((s_Slice b String' (IntKind.i64.wrap String.Num) String.W).bind fun x23 =>
                              some x23.1)
                              ((s_Ext String.Op b String' String.W).bind fun x24 =>
                              some x24.1))))))))))))))
theorem t_Ev_node {String : Nd} {String' : Int} {n : Int} {a : Int} {b : Int} {c : Int} {r : Int}
    (hs : s_Ev_node String String' n a b c = some r) :
    TriV Tryz.prog 34 [.agg #[.int .i64 String.Op, .int .i64 String.W, .int .i64 String.A, .int .i64 String.B, .int .i64 String.C, .int .u64 String.Num, .string String.Name], .int .u64 String', .int .u64 n, .int .u64 a, .int .i64 b, .int .i64 c] [] (.int .u64 r) [] := by
  unfold s_Ev_node at hs
  refine TriL.of Tryz.func34 rfl Tryz.ntmps34 Tryz.results34 rfl (fun w0 F => ?_)
  refine WP.seq ?_
  refine WP.region ?_
  refine WO.step (SO.of rfl (EO.box rfl)) rfl ?_
  rintro _ _ ⟨b1, rfl, rfl⟩
  refine WO.toL [F, pt b1 (.cells #[.int .i64 String.Op, .int .i64 String.W, .int .i64 String.A, .int .i64 String.B, .int .i64 String.C, .int .u64 String.Num, .string String.Name] 45 (0, 0))] rfl ?_
  refine WO.val (PO.assign rfl) rfl ?_
  refine WO.nil ?_
  refine WP.seq ?_
  refine WP.seq ?_
  refine WP.region ?_
  refine WO.val (PO.fieldAddr rfl Tryz.runUnderlying45 rfl Tryz.sizeOf3 rfl) rfl ?_
  refine WO.val (PO.load 1 rfl Tryz.isAgg3 rfl rfl) rfl ?_
  refine WO.val (PO.assign rfl) rfl ?_
  refine WO.nil ?_
  refine WP.block ?_
  refine WP.seq ?_
  refine WP.region ?_
  refine WO.val (PO.move rfl) rfl ?_
  refine WO.val (PO.eql rfl rfl) rfl ?_
  refine WO.val (PO.assign rfl) rfl ?_
  refine WO.nil ?_
  refine WP.cond rfl (fun h2 => ?_) (fun h2 => ?_)
  · replace hs := cond_t h2 hs
    refine WP.seq ?_
    refine WP.region ?_
    refine WO.val (PO.assign rfl) rfl ?_
    refine WO.nil ?_
    refine WP.ret ?_
    obtain rfl := Option.some.inj hs
    exact ⟨_, _, _, Res.one (RV.tmp rfl), ⟨rfl, rfl⟩, fun _ s => s⟩
  · replace hs := cond_f h2 hs
    refine WP.seq ?_
    refine WP.region ?_
    refine WO.val (PO.move rfl) rfl ?_
    refine WO.val (PO.eql rfl rfl) rfl ?_
    refine WO.val (PO.assign rfl) rfl ?_
    refine WO.nil ?_
    refine WP.cond rfl (fun h3 => ?_) (fun h3 => ?_)
    · replace hs := cond_t h3 hs
      refine WP.seq ?_
      refine WP.region ?_
      refine WO.val (PO.assign rfl) rfl ?_
      refine WO.nil ?_
      refine WP.ret ?_
      obtain rfl := Option.some.inj hs
      exact ⟨_, _, _, Res.one (RV.tmp rfl), ⟨rfl, rfl⟩, fun _ s => s⟩
    · replace hs := cond_f h3 hs
      refine WP.seq ?_
      refine WP.region ?_
      refine WO.val (PO.move rfl) rfl ?_
      refine WO.val (PO.eql rfl rfl) rfl ?_
      refine WO.val (PO.assign rfl) rfl ?_
      refine WO.nil ?_
      refine WP.cond rfl (fun h4 => ?_) (fun h4 => ?_)
      · replace hs := cond_t h4 hs
        refine WP.seq ?_
        refine WP.region ?_
        refine WO.val (PO.fieldAddr rfl Tryz.runUnderlying45 rfl Tryz.sizeOf33 rfl) rfl ?_
        refine WO.val (PO.load 1 rfl Tryz.isAgg33 rfl rfl) rfl ?_
        refine WO.val (PO.assign rfl) rfl ?_
        refine WO.nil ?_
        refine WP.ret ?_
        obtain rfl := Option.some.inj hs
        exact ⟨_, _, _, Res.one (RV.tmp rfl), ⟨rfl, rfl⟩, fun _ s => s⟩
      · replace hs := cond_f h4 hs
        refine WP.seq ?_
        refine WP.region ?_
        refine WO.val (PO.move rfl) rfl ?_
        refine WO.val (PO.eql rfl rfl) rfl ?_
        refine WO.val (PO.assign rfl) rfl ?_
        refine WO.nil ?_
        refine WP.cond rfl (fun h5 => ?_) (fun h5 => ?_)
        · replace hs := cond_t h5 hs
          refine WP.seq ?_
          refine WP.region ?_
          refine WO.val (PO.move rfl) rfl ?_
          refine WO.val (PO.sub rfl rfl) rfl ?_
          refine WO.val (PO.assign rfl) rfl ?_
          refine WO.nil ?_
          refine WP.ret ?_
          obtain rfl := Option.some.inj hs
          exact ⟨_, _, _, Res.one (RV.tmp rfl), ⟨rfl, rfl⟩, fun _ s => s⟩
        · replace hs := cond_f h5 hs
          refine WP.seq ?_
          refine WP.region ?_
          refine WO.val (PO.move rfl) rfl ?_
          refine WO.val (PO.eql rfl rfl) rfl ?_
          refine WO.val (PO.assign rfl) rfl ?_
          refine WO.nil ?_
          refine WP.cond rfl (fun h6 => ?_) (fun h6 => ?_)
          · replace hs := cond_t h6 hs
            refine WP.seq ?_
            refine WP.region ?_
            refine WO.val (PO.move rfl) rfl ?_
            refine WO.val (PO.move rfl) rfl ?_
            refine WO.val (PO.and rfl rfl) rfl ?_
            refine WO.val (PO.assign rfl) rfl ?_
            refine WO.nil ?_
            refine WP.ret ?_
            obtain rfl := Option.some.inj hs
            exact ⟨_, _, _, Res.one (RV.tmp rfl), ⟨rfl, rfl⟩, fun _ s => s⟩
          · replace hs := cond_f h6 hs
            refine WP.seq ?_
            refine WP.region ?_
            refine WO.val (PO.move rfl) rfl ?_
            refine WO.val (PO.eql rfl rfl) rfl ?_
            refine WO.val (PO.assign rfl) rfl ?_
            refine WO.nil ?_
            refine WP.cond rfl (fun h7 => ?_) (fun h7 => ?_)
            · replace hs := cond_t h7 hs
              refine WP.seq ?_
              refine WP.region ?_
              refine WO.val (PO.move rfl) rfl ?_
              refine WO.val (PO.move rfl) rfl ?_
              refine WO.val (PO.or rfl rfl) rfl ?_
              refine WO.val (PO.assign rfl) rfl ?_
              refine WO.nil ?_
              refine WP.ret ?_
              obtain rfl := Option.some.inj hs
              exact ⟨_, _, _, Res.one (RV.tmp rfl), ⟨rfl, rfl⟩, fun _ s => s⟩
            · replace hs := cond_f h7 hs
              refine WP.seq ?_
              refine WP.region ?_
              refine WO.val (PO.move rfl) rfl ?_
              refine WO.val (PO.eql rfl rfl) rfl ?_
              refine WO.val (PO.assign rfl) rfl ?_
              refine WO.nil ?_
              refine WP.cond rfl (fun h8 => ?_) (fun h8 => ?_)
              · replace hs := cond_t h8 hs
                refine WP.seq ?_
                refine WP.region ?_
                refine WO.val (PO.move rfl) rfl ?_
                refine WO.val (PO.move rfl) rfl ?_
                refine WO.val (PO.xor rfl rfl) rfl ?_
                refine WO.val (PO.assign rfl) rfl ?_
                refine WO.nil ?_
                refine WP.ret ?_
                obtain rfl := Option.some.inj hs
                exact ⟨_, _, _, Res.one (RV.tmp rfl), ⟨rfl, rfl⟩, fun _ s => s⟩
              · replace hs := cond_f h8 hs
                refine WP.seq ?_
                refine WP.region ?_
                refine WO.val (PO.move rfl) rfl ?_
                refine WO.val (PO.eql rfl rfl) rfl ?_
                refine WO.val (PO.assign rfl) rfl ?_
                refine WO.nil ?_
                refine WP.cond rfl (fun h9 => ?_) (fun h9 => ?_)
                · replace hs := cond_t h9 hs
                  refine WP.seq ?_
                  refine WP.region ?_
                  refine WO.val (PO.move rfl) rfl ?_
                  refine WO.val (PO.move rfl) rfl ?_
                  refine WO.val (PO.eql rfl rfl) rfl ?_
                  obtain ⟨x10, hx10, hs⟩ := lt_elim hs
                  refine WO.vo (VO.call0 Tryz.call59 rfl (t_Ev_one hx10)) rfl ?_
                  refine WO.val (PO.assign rfl) rfl ?_
                  refine WO.nil ?_
                  refine WP.ret ?_
                  obtain rfl := Option.some.inj hs
                  exact ⟨_, _, _, Res.one (RV.tmp rfl), ⟨rfl, rfl⟩, fun _ s => s⟩
                · replace hs := cond_f h9 hs
                  refine WP.seq ?_
                  refine WP.region ?_
                  refine WO.val (PO.move rfl) rfl ?_
                  refine WO.val (PO.leq rfl rfl) rfl ?_
                  refine WO.val (PO.assign rfl) rfl ?_
                  refine WO.nil ?_
                  refine WP.cond rfl (fun h11 => ?_) (fun h11 => ?_)
                  · replace hs := cond_t h11 hs
                    refine WP.seq ?_
                    refine WP.region ?_
                    refine WO.val (PO.move rfl) rfl ?_
                    refine WO.val (PO.move rfl) rfl ?_
                    refine WO.val (PO.move rfl) rfl ?_
                    refine WO.val (PO.move rfl) rfl ?_
                    obtain ⟨x12, hx12, hs⟩ := bind_elim hs
                    refine WO.vo (VO.call0 Tryz.call60 rfl (t_Cmp hx12)) rfl ?_
                    refine WO.val (PO.move rfl) rfl ?_
                    refine WO.val (PO.extract rfl rfl) rfl ?_
                    refine WO.val (PO.extract rfl rfl) rfl ?_
                    refine WO.val (PO.assign rfl) rfl ?_
                    refine WO.val (PO.assign rfl) rfl ?_
                    refine WO.nil ?_
                    refine WP.seq ?_
                    refine WP.region ?_
                    refine WO.val (PO.move rfl) rfl ?_
                    obtain ⟨x13, hx13, hs⟩ := lt_elim hs
                    refine WO.vo (VO.call0 Tryz.call59 rfl (t_Ev_one hx13)) rfl ?_
                    refine WO.val (PO.assign rfl) rfl ?_
                    refine WO.nil ?_
                    refine WP.ret ?_
                    obtain rfl := Option.some.inj hs
                    exact ⟨_, _, _, Res.one (RV.tmp rfl), ⟨rfl, rfl⟩, fun _ s => s⟩
                  · replace hs := cond_f h11 hs
                    refine WP.seq ?_
                    refine WP.region ?_
                    refine WO.val (PO.move rfl) rfl ?_
                    refine WO.val (PO.eql rfl rfl) rfl ?_
                    refine WO.val (PO.assign rfl) rfl ?_
                    refine WO.nil ?_
                    refine WP.cond rfl (fun h14 => ?_) (fun h14 => ?_)
                    · replace hs := cond_t h14 hs
                      refine WP.seq ?_
                      refine WP.seq ?_
                      refine WP.region ?_
                      refine WO.val (PO.move rfl) rfl ?_
                      refine WO.val (PO.eql rfl rfl) rfl ?_
                      refine WO.nil ?_
                      refine WP.cond rfl (fun h15 => ?_) (fun h15 => ?_)
                      · replace hs := cond_t h15 hs
                        refine WP.seq ?_
                        refine WP.region ?_
                        refine WO.val (PO.move rfl) rfl ?_
                        refine WO.val (PO.assign rfl) rfl ?_
                        refine WO.nil ?_
                        refine WP.ret ?_
                        obtain rfl := Option.some.inj hs
                        exact ⟨_, _, _, Res.one (RV.tmp rfl), ⟨rfl, rfl⟩, fun _ s => s⟩
                      · replace hs := cond_f h15 hs
                        refine WP.skip ?_
                        refine WP.seq ?_
                        refine WP.region ?_
                        refine WO.val (PO.move rfl) rfl ?_
                        refine WO.val (PO.assign rfl) rfl ?_
                        refine WO.nil ?_
                        refine WP.ret ?_
                        obtain rfl := Option.some.inj hs
                        exact ⟨_, _, _, Res.one (RV.tmp rfl), ⟨rfl, rfl⟩, fun _ s => s⟩
                    · replace hs := cond_f h14 hs
                      refine WP.seq ?_
                      refine WP.region ?_
                      refine WO.val (PO.move rfl) rfl ?_
                      refine WO.val (PO.leq rfl rfl) rfl ?_
                      refine WO.val (PO.assign rfl) rfl ?_
                      refine WO.nil ?_
                      refine WP.cond rfl (fun h16 => ?_) (fun h16 => ?_)
                      · replace hs := cond_t h16 hs
                        refine WP.seq ?_
                        refine WP.region ?_
                        refine WO.val (PO.move rfl) rfl ?_
                        refine WO.val (PO.fieldAddr rfl Tryz.runUnderlying45 rfl Tryz.sizeOf3 rfl) rfl ?_
                        refine WO.val (PO.load 1 rfl Tryz.isAgg3 rfl rfl) rfl ?_
                        refine WO.val (PO.move rfl) rfl ?_
                        obtain ⟨x17, hx17, hs⟩ := lt_elim hs
                        refine WO.vo (VO.call0 Tryz.call61 rfl (t_Un hx17)) rfl ?_
                        refine WO.val (PO.move rfl) rfl ?_
                        refine WO.val (PO.extract rfl rfl) rfl ?_
                        refine WO.val (PO.extract rfl rfl) rfl ?_
                        refine WO.val (PO.assign rfl) rfl ?_
                        refine WO.val (PO.assign rfl) rfl ?_
                        refine WO.nil ?_
                        refine WP.seq ?_
                        refine WP.region ?_
                        refine WO.val (PO.move rfl) rfl ?_
                        refine WO.val (PO.assign rfl) rfl ?_
                        refine WO.nil ?_
                        refine WP.ret ?_
                        obtain rfl := Option.some.inj hs
                        exact ⟨_, _, _, Res.one (RV.tmp rfl), ⟨rfl, rfl⟩, fun _ s => s⟩
                      · replace hs := cond_f h16 hs
                        refine WP.seq ?_
                        refine WP.region ?_
                        refine WO.val (PO.move rfl) rfl ?_
                        refine WO.val (PO.leq rfl rfl) rfl ?_
                        refine WO.val (PO.assign rfl) rfl ?_
                        refine WO.nil ?_
                        refine WP.cond rfl (fun h18 => ?_) (fun h18 => ?_)
                        · replace hs := cond_t h18 hs
                          refine WP.seq ?_
                          refine WP.region ?_
                          refine WO.val (PO.move rfl) rfl ?_
                          refine WO.val (PO.fieldAddr rfl Tryz.runUnderlying45 rfl Tryz.sizeOf3 rfl) rfl ?_
                          refine WO.val (PO.load 1 rfl Tryz.isAgg3 rfl rfl) rfl ?_
                          refine WO.val (PO.move rfl) rfl ?_
                          refine WO.val (PO.move rfl) rfl ?_
                          obtain ⟨x19, hx19, hs⟩ := bind_elim hs
                          refine WO.vo (VO.call0 Tryz.call62 rfl (t_Bin hx19)) rfl ?_
                          refine WO.val (PO.move rfl) rfl ?_
                          refine WO.val (PO.extract rfl rfl) rfl ?_
                          refine WO.val (PO.extract rfl rfl) rfl ?_
                          refine WO.val (PO.assign rfl) rfl ?_
                          refine WO.val (PO.assign rfl) rfl ?_
                          refine WO.nil ?_
                          refine WP.seq ?_
                          refine WP.region ?_
                          refine WO.val (PO.move rfl) rfl ?_
                          refine WO.val (PO.assign rfl) rfl ?_
                          refine WO.nil ?_
                          refine WP.ret ?_
                          obtain rfl := Option.some.inj hs
                          exact ⟨_, _, _, Res.one (RV.tmp rfl), ⟨rfl, rfl⟩, fun _ s => s⟩
                        · replace hs := cond_f h18 hs
                          refine WP.seq ?_
                          refine WP.region ?_
                          refine WO.val (PO.move rfl) rfl ?_
                          refine WO.val (PO.eql rfl rfl) rfl ?_
                          refine WO.val (PO.assign rfl) rfl ?_
                          refine WO.nil ?_
                          refine WP.cond rfl (fun h20 => ?_) (fun h20 => ?_)
                          · replace hs := cond_t h20 hs
                            refine WP.seq ?_
                            refine WP.region ?_
                            refine WO.val (PO.move rfl) rfl ?_
                            refine WO.val (PO.move rfl) rfl ?_
                            refine WO.val (PO.move rfl) rfl ?_
                            refine WO.val (PO.move rfl) rfl ?_
                            obtain ⟨x21, hx21, hs⟩ := bind_elim hs
                            refine WO.vo (VO.call0 Tryz.call63 rfl (t_Cat hx21)) rfl ?_
                            refine WO.val (PO.move rfl) rfl ?_
                            refine WO.val (PO.extract rfl rfl) rfl ?_
                            refine WO.val (PO.extract rfl rfl) rfl ?_
                            refine WO.val (PO.assign rfl) rfl ?_
                            refine WO.val (PO.assign rfl) rfl ?_
                            refine WO.nil ?_
                            refine WP.seq ?_
                            refine WP.region ?_
                            refine WO.val (PO.move rfl) rfl ?_
                            refine WO.val (PO.assign rfl) rfl ?_
                            refine WO.nil ?_
                            refine WP.ret ?_
                            obtain rfl := Option.some.inj hs
                            exact ⟨_, _, _, Res.one (RV.tmp rfl), ⟨rfl, rfl⟩, fun _ s => s⟩
                          · replace hs := cond_f h20 hs
                            refine WP.seq ?_
                            refine WP.region ?_
                            refine WO.val (PO.move rfl) rfl ?_
                            refine WO.val (PO.eql rfl rfl) rfl ?_
                            refine WO.val (PO.assign rfl) rfl ?_
                            refine WO.nil ?_
                            refine WP.cond rfl (fun h22 => ?_) (fun h22 => ?_)
                            · replace hs := cond_t h22 hs
                              refine WP.seq ?_
                              refine WP.region ?_
                              refine WO.val (PO.move rfl) rfl ?_
                              refine WO.val (PO.move rfl) rfl ?_
                              refine WO.val (PO.fieldAddr rfl Tryz.runUnderlying45 rfl Tryz.sizeOf33 rfl) rfl ?_
                              refine WO.val (PO.load 1 rfl Tryz.isAgg33 rfl rfl) rfl ?_
                              refine WO.val (PO.conv rfl Tryz.runUnderlying33 Tryz.runUnderlying3) rfl ?_
                              refine WO.val (PO.fieldAddr rfl Tryz.runUnderlying45 rfl Tryz.sizeOf3 rfl) rfl ?_
                              refine WO.val (PO.load 1 rfl Tryz.isAgg3 rfl rfl) rfl ?_
                              obtain ⟨x23, hx23, hs⟩ := bind_elim hs
                              refine WO.vo (VO.call0 Tryz.call64 rfl (t_Slice hx23)) rfl ?_
                              refine WO.val (PO.move rfl) rfl ?_
                              refine WO.val (PO.extract rfl rfl) rfl ?_
                              refine WO.val (PO.extract rfl rfl) rfl ?_
                              refine WO.val (PO.assign rfl) rfl ?_
                              refine WO.val (PO.assign rfl) rfl ?_
                              refine WO.nil ?_
                              refine WP.seq ?_
                              refine WP.region ?_
                              refine WO.val (PO.move rfl) rfl ?_
                              refine WO.val (PO.assign rfl) rfl ?_
                              refine WO.nil ?_
                              refine WP.ret ?_
                              obtain rfl := Option.some.inj hs
                              exact ⟨_, _, _, Res.one (RV.tmp rfl), ⟨rfl, rfl⟩, fun _ s => s⟩
                            · replace hs := cond_f h22 hs
                              refine WP.skip ?_
                              refine WP.seq ?_
                              refine WP.region ?_
                              refine WO.val (PO.fieldAddr rfl Tryz.runUnderlying45 rfl Tryz.sizeOf3 rfl) rfl ?_
                              refine WO.val (PO.load 1 rfl Tryz.isAgg3 rfl rfl) rfl ?_
                              refine WO.val (PO.move rfl) rfl ?_
                              refine WO.val (PO.move rfl) rfl ?_
                              refine WO.val (PO.fieldAddr rfl Tryz.runUnderlying45 rfl Tryz.sizeOf3 rfl) rfl ?_
                              refine WO.val (PO.load 1 rfl Tryz.isAgg3 rfl rfl) rfl ?_
                              obtain ⟨x24, hx24, hs⟩ := bind_elim hs
                              refine WO.vo (VO.call0 Tryz.call65 rfl (t_Ext hx24)) rfl ?_
                              refine WO.val (PO.move rfl) rfl ?_
                              refine WO.val (PO.extract rfl rfl) rfl ?_
                              refine WO.val (PO.extract rfl rfl) rfl ?_
                              refine WO.val (PO.assign rfl) rfl ?_
                              refine WO.val (PO.assign rfl) rfl ?_
                              refine WO.nil ?_
                              refine WP.seq ?_
                              refine WP.region ?_
                              refine WO.val (PO.move rfl) rfl ?_
                              refine WO.val (PO.assign rfl) rfl ?_
                              refine WO.nil ?_
                              refine WP.ret ?_
                              obtain rfl := Option.some.inj hs
                              exact ⟨_, _, _, Res.one (RV.tmp rfl), ⟨rfl, rfl⟩, fun _ s => s⟩
attribute [irreducible] s_Ev_node

/- cadence/eval.plus -/
def s_Ev_plus (a : Int) (b : Int) : Int :=
  cond (decide ((IntKind.u64.wrap (a + b)) < a))
    (18446744073709551615)
    ((IntKind.u64.wrap (a + b)))
theorem t_Ev_plus {a : Int} {b : Int} {r : Int}
    (hs : s_Ev_plus a b = r) :
    TriV Tryz.prog 53 [.int .u64 a, .int .u64 b] [] (.int .u64 r) [] := by
  unfold s_Ev_plus at hs
  refine TriL.of Tryz.func53 rfl Tryz.ntmps53 Tryz.results53 rfl (fun w0 F => ?_)
  refine WP.seq ?_
  refine WP.region ?_
  refine WO.val (PO.assign rfl) rfl ?_
  refine WO.nil ?_
  refine WP.seq ?_
  refine WP.seq ?_
  refine WP.region ?_
  refine WO.val (PO.move rfl) rfl ?_
  refine WO.val (PO.move rfl) rfl ?_
  refine WO.val (PO.add rfl rfl) rfl ?_
  refine WO.val (PO.move rfl) rfl ?_
  refine WO.val (PO.lss rfl rfl) rfl ?_
  refine WO.nil ?_
  refine WP.cond rfl (fun h1 => ?_) (fun h1 => ?_)
  · replace hs := cond_t h1 hs
    refine WP.seq ?_
    refine WP.region ?_
    refine WO.val (PO.assign rfl) rfl ?_
    refine WO.nil ?_
    refine WP.ret ?_
    cases hs
    exact ⟨_, _, _, Res.one (RV.tmp rfl), ⟨rfl, rfl⟩, fun _ s => s⟩
  · replace hs := cond_f h1 hs
    refine WP.skip ?_
    refine WP.seq ?_
    refine WP.region ?_
    refine WO.val (PO.move rfl) rfl ?_
    refine WO.val (PO.move rfl) rfl ?_
    refine WO.val (PO.add rfl rfl) rfl ?_
    refine WO.val (PO.assign rfl) rfl ?_
    refine WO.nil ?_
    refine WP.ret ?_
    cases hs
    exact ⟨_, _, _, Res.one (RV.tmp rfl), ⟨rfl, rfl⟩, fun _ s => s⟩
attribute [irreducible] s_Ev_plus

/- cadence/eval.told -/
def s_Ev_told_l1 (String : List Vl) (c2_1 : List (ByteArray × Vl)) : Nat → Int → Option ((List (ByteArray × Vl)) × Int)
  | 0, _ => none
  | c13_k + 1, c13_0 =>
    cond (decide (c13_0 < (String.length : Int)))
      ((getI String c13_0).bind fun x15 =>
      lt (s_Trim (maxI x15.W 1) x15.Num) fun x27 =>
      cond (((decide (x15.W < 0)) || (decide (64 < x15.W))) || (x27 != x15.Num))
        (none)
        (s_Ev_told_l1 String c2_1 c13_k (IntKind.i64.wrap (c13_0 + 1))))
      (some (c2_1, 0))
def s_Ev_told_l0 (String : List Vl) (k : Nat) : Nat → Int → (List (ByteArray × Vl)) → Option ((List (ByteArray × Vl)) × Int)
  | 0, _, _ => none
  | c2_k + 1, c2_0, c2_1 =>
    cond (decide (c2_0 < (String.length : Int)))
      ((getI String c2_0).bind fun x4 =>
      (opt (!((mget c2_1 x4.Name).isSome)) (s_Name k x4.Name) false).bind fun x10 =>
      cond (((mget c2_1 x4.Name).isSome) || (!x10))
        (none)
        (s_Ev_told_l0 String k c2_k (IntKind.i64.wrap (c2_0 + 1)) (mput c2_1 x4.Name x4)))
      (s_Ev_told_l1 String c2_1 k 0)
def s_Ev_told (k : Nat) (String : List Vl) : Option ((List (ByteArray × Vl)) × Int) :=
  s_Ev_told_l0 String k k 0 ([])
theorem t_Ev_told {k : Nat} {v_0 : Value} {String : List Vl} {r : (List (ByteArray × Vl)) × Int}
    (hs : s_Ev_told k String = some r) :
    TriX Tryz.prog 33 [v_0] [slc 35 3 v_0 String.length (fl Vl.cells String)] (.ok r) faultV (fun (a_ : (List (ByteArray × Vl)) × Int) (c : Nat) => .tuple #[.map (some c), .int .i64 a_.2]) (fun a_ c => [slc 35 3 v_0 String.length (fl Vl.cells String), mapAt sv Vl.val c a_.1]) := by
  unfold s_Ev_told at hs
  refine TriX.of Tryz.func33 rfl Tryz.ntmps33 Tryz.results33 rfl (fun w0 F => ?_)
  refine WP.seq ?_
  refine WP.region ?_
  refine WO.val (PO.assign rfl) rfl ?_
  refine WO.val (PO.assign rfl) rfl ?_
  refine WO.nil ?_
  refine WP.seq ?_
  refine WP.region ?_
  refine WO.val (PO.move rfl) rfl ?_
  refine WO.val (PO.lenL 0 rfl Tryz.runUnderlying27 rfl) rfl ?_
  refine WO.step (SO.of rfl (EO.makeMapN (kv := sv) (vv := Vl.val) rfl Tryz.runUnderlying82)) rfl ?_
  rintro _ _ ⟨b1, rfl, rfl⟩
  refine WO.toL [slc 35 3 v_0 String.length (fl Vl.cells String), F, mapAt sv Vl.val b1 ([])] rfl ?_
  refine WO.val (PO.assign rfl) rfl ?_
  refine WO.nil ?_
  refine WP.seq ?_
  refine WP.seq ?_
  refine WP.region ?_
  refine WO.val (PO.move rfl) rfl ?_
  refine WO.val (PO.lenL 0 rfl Tryz.runUnderlying27 rfl) rfl ?_
  refine WO.val (PO.move rfl) rfl ?_
  refine WO.nil ?_
  refine WP.block ?_
  refine WP.loopG (fun c2_k f_ L_ => ∃ (c2_0 : Int) (c2_1 : List (ByteArray × Vl)), Holds f_ [(0, v_0), (2, .map none), (3, .int .i64 0), (4, .map (some b1)), (14, v_0), (15, .int .i64 (String.length : Int)), (16, .int .i64 c2_0)] ∧ L_ = [slc 35 3 v_0 String.length (fl Vl.cells String), F, mapAt sv Vl.val b1 c2_1] ∧ s_Ev_told_l0 String k c2_k c2_0 c2_1 = some r) k ⟨0, [], ⟨rfl, rfl, rfl, rfl, rfl, rfl, rfl, trivial⟩, rfl, hs⟩ ?_
  rintro c2_k f_ L_ ⟨c2_0, c2_1, hf_, rfl, hs⟩
  refine WP.keep [(0, v_0), (2, .map none), (3, .int .i64 0), (4, .map (some b1)), (14, v_0), (15, .int .i64 (String.length : Int)), (16, .int .i64 c2_0)] hf_ ?_
  cases c2_k with
  | zero => exact nomatch (show none = some r from hs)
  | succ c2_k =>
    rw [s_Ev_told_l0.eq_2] at hs
    refine WP.seq ?_
    refine WP.region ?_
    refine WO.val (PO.lss rfl rfl) rfl ?_
    refine WO.nil ?_
    refine WP.seq ?_
    refine WP.cond rfl (fun h3 => ?_) (fun h3 => ?_)
    · replace hs := cond_t h3 hs
      refine WP.skip ?_
      refine WP.seq ?_
      refine WP.block ?_
      refine WP.seq ?_
      refine WP.region ?_
      obtain ⟨x4, hx4, hs⟩ := bind_elim hs
      refine WO.val (PO.idxL 0 rfl rfl Tryz.runUnderlying27 Tryz.sizeOf35 rfl hx4) rfl ?_
      refine WO.val (PO.loadLAgg (c := Vl.cells) (k := 3) 0 (fun _ => rfl) rfl Tryz.isAgg35 Tryz.sizeOf35 rfl hx4 rfl) rfl ?_
      refine WO.step (SO.of rfl (EO.alloc Tryz.zeroValue35)) rfl ?_
      rintro _ _ ⟨b5, rfl, rfl⟩
      refine WO.toL [slc 35 3 v_0 String.length (fl Vl.cells String), F, mapAt sv Vl.val b1 c2_1, pt b5 (.cells #[.string (ByteArray.mk #[]), .int .i64 0, .int .u64 0] 35 (0, 0))] rfl ?_
      refine WO.step (SO.of rfl (EO.store 3 _ rfl rfl Tryz.sizeOf35 rfl rfl rfl rfl)) rfl ?_
      rintro _ _ rfl
      refine WO.toL [slc 35 3 v_0 String.length (fl Vl.cells String), F, mapAt sv Vl.val b1 c2_1, pt b5 (.cells #[.string x4.Name, .int .i64 x4.W, .int .u64 x4.Num] 35 (0, 0))] rfl ?_
      refine WO.nil ?_
      refine WP.seq ?_
      refine WP.seq ?_
      refine WP.region ?_
      refine WO.val (PO.move rfl) rfl ?_
      refine WO.val (PO.fieldAddr rfl Tryz.runUnderlying35 rfl Tryz.sizeOf9 rfl) rfl ?_
      refine WO.val (PO.load 3 rfl Tryz.isAgg9 rfl rfl) rfl ?_
      refine WO.val (PO.lookup2 (a := x4.Name) (z := ⟨(ByteArray.mk #[]), 0, 0⟩) 2 str_key rfl rfl Tryz.runUnderlying82 Tryz.zeroValue35 rfl) rfl ?_
      refine WO.val (PO.move rfl) rfl ?_
      refine WO.val (PO.extract rfl rfl) rfl ?_
      refine WO.val (PO.extract rfl rfl) rfl ?_
      refine WO.step (SO.of rfl (EO.alloc Tryz.zeroValue35)) rfl ?_
      rintro _ _ ⟨b6, rfl, rfl⟩
      refine WO.toL [slc 35 3 v_0 String.length (fl Vl.cells String), F, mapAt sv Vl.val b1 c2_1, pt b5 (.cells #[.string x4.Name, .int .i64 x4.W, .int .u64 x4.Num] 35 (0, 0)), pt b6 (.cells #[.string (ByteArray.mk #[]), .int .i64 0, .int .u64 0] 35 (0, 0))] rfl ?_
      refine WO.step (SO.of rfl (EO.store 4 _ rfl rfl Tryz.sizeOf35 rfl rfl rfl rfl)) rfl ?_
      rintro _ _ rfl
      refine WO.toL [slc 35 3 v_0 String.length (fl Vl.cells String), F, mapAt sv Vl.val b1 c2_1, pt b5 (.cells #[.string x4.Name, .int .i64 x4.W, .int .u64 x4.Num] 35 (0, 0)), pt b6 (.cells #[.string (((mget c2_1 x4.Name).getD ⟨(ByteArray.mk #[]), 0, 0⟩).Name), .int .i64 (((mget c2_1 x4.Name).getD ⟨(ByteArray.mk #[]), 0, 0⟩).W), .int .u64 (((mget c2_1 x4.Name).getD ⟨(ByteArray.mk #[]), 0, 0⟩).Num)] 35 (0, 0))] rfl ?_
      refine WO.val (PO.assign rfl) rfl ?_
      refine WO.nil ?_
      refine WP.seq ?_
      refine WP.regionG (D := [some 27, some 28, some 29, some 30, some 31, some 32, some 33]) rfl ?_
      refine WO.val (PO.move rfl) rfl ?_
      refine WO.val (PO.move rfl) rfl ?_
      refine WO.guardF rfl rfl (fun hg7 => (PO.fieldAddr rfl Tryz.runUnderlying35 rfl Tryz.sizeOf9 rfl).vo) rfl ?_
      refine WO.guardF rfl rfl (fun hg8 => (PO.load 3 (evg hg8 rfl) Tryz.isAgg9 rfl rfl).vo) rfl ?_
      obtain ⟨x10, hx10, hs⟩ := bind_elim hs
      refine WO.guardF rfl rfl (fun hg9 => VO.call0 Tryz.call35 (evs_cons (evg hg9 rfl) evs_nil) (t_Name (opt_t hx10 hg9))) rfl ?_
      refine WO.guardF rfl rfl (fun hg11 => (PO.not (evg hg11 rfl)).vo) rfl ?_
      refine WO.val (PO.pickO rfl rfl rfl) rfl ?_
      refine WO.nil ?_
      refine WP.cond rfl (fun h12 => ?_) (fun h12 => ?_)
      · replace hs := cond_t h12 hs
        refine WP.seq ?_
        refine WP.region ?_
        refine WO.val (PO.assign rfl) rfl ?_
        refine WO.val (PO.assign rfl) rfl ?_
        refine WO.nil ?_
        refine WP.ret ?_
        cases hs
      · replace hs := cond_f h12 hs
        refine WP.skip ?_
        refine WP.region ?_
        refine WO.val (PO.move rfl) rfl ?_
        refine WO.val (PO.fieldAddr rfl Tryz.runUnderlying35 rfl Tryz.sizeOf9 rfl) rfl ?_
        refine WO.val (PO.load 3 rfl Tryz.isAgg9 rfl rfl) rfl ?_
        refine WO.val (PO.loadAgg 3 rfl Tryz.isAgg35 Tryz.sizeOf35 rfl rfl rfl) rfl ?_
        refine WO.step (SO.of rfl (EO.mapUpdate (a := x4.Name) (b := x4) 2 _ str_key rfl rfl rfl Tryz.runUnderlying82 rfl rfl)) rfl ?_
        rintro _ _ rfl
        refine WO.toL [slc 35 3 v_0 String.length (fl Vl.cells String), F, mapAt sv Vl.val b1 (mput c2_1 x4.Name x4), pt b5 (.cells #[.string x4.Name, .int .i64 x4.W, .int .u64 x4.Num] 35 (0, 0)), pt b6 (.cells #[.string (((mget c2_1 x4.Name).getD ⟨(ByteArray.mk #[]), 0, 0⟩).Name), .int .i64 (((mget c2_1 x4.Name).getD ⟨(ByteArray.mk #[]), 0, 0⟩).W), .int .u64 (((mget c2_1 x4.Name).getD ⟨(ByteArray.mk #[]), 0, 0⟩).Num)] 35 (0, 0))] rfl ?_
        refine WO.nil ?_
        refine WP.region ?_
        refine WO.val (PO.add rfl rfl) rfl ?_
        refine WO.val (PO.move rfl) rfl ?_
        refine WO.nil ?_
        exact ⟨c2_k, _, Nat.lt_succ_self _, ⟨(IntKind.i64.wrap (c2_0 + 1)), (mput c2_1 x4.Name x4), ⟨rfl, rfl, rfl, rfl, rfl, rfl, rfl, trivial⟩, rfl, hs⟩, fun _ s => s.pre⟩
    · replace hs := cond_f h3 hs
      refine WP.exit (inX.hit ?_)
      refine WP.seq ?_
      refine WP.seq ?_
      refine WP.region ?_
      refine WO.val (PO.move rfl) rfl ?_
      refine WO.val (PO.lenL 0 rfl Tryz.runUnderlying27 rfl) rfl ?_
      refine WO.val (PO.move rfl) rfl ?_
      refine WO.nil ?_
      refine WP.block ?_
      refine WP.loopG (fun c13_k f_ L_ => ∃ (c13_0 : Int), Holds f_ [(2, .map none), (3, .int .i64 0), (4, .map (some b1)), (39, v_0), (40, .int .i64 (String.length : Int)), (41, .int .i64 c13_0)] ∧ L_ = [slc 35 3 v_0 String.length (fl Vl.cells String), F, mapAt sv Vl.val b1 c2_1] ∧ s_Ev_told_l1 String c2_1 c13_k c13_0 = some r) k ⟨0, ⟨rfl, rfl, rfl, rfl, rfl, rfl, trivial⟩, rfl, hs⟩ ?_
      rintro c13_k f_ L_ ⟨c13_0, hf_, rfl, hs⟩
      refine WP.keep [(2, .map none), (3, .int .i64 0), (4, .map (some b1)), (39, v_0), (40, .int .i64 (String.length : Int)), (41, .int .i64 c13_0)] hf_ ?_
      cases c13_k with
      | zero => exact nomatch (show none = some r from hs)
      | succ c13_k =>
        rw [s_Ev_told_l1.eq_2] at hs
        refine WP.seq ?_
        refine WP.region ?_
        refine WO.val (PO.lss rfl rfl) rfl ?_
        refine WO.nil ?_
        refine WP.seq ?_
        refine WP.cond rfl (fun h14 => ?_) (fun h14 => ?_)
        · replace hs := cond_t h14 hs
          refine WP.skip ?_
          refine WP.seq ?_
          refine WP.block ?_
          refine WP.seq ?_
          refine WP.region ?_
          obtain ⟨x15, hx15, hs⟩ := bind_elim hs
          refine WO.val (PO.idxL 0 rfl rfl Tryz.runUnderlying27 Tryz.sizeOf35 rfl hx15) rfl ?_
          refine WO.val (PO.loadLAgg (c := Vl.cells) (k := 3) 0 (fun _ => rfl) rfl Tryz.isAgg35 Tryz.sizeOf35 rfl hx15 rfl) rfl ?_
          refine WO.step (SO.of rfl (EO.alloc Tryz.zeroValue35)) rfl ?_
          rintro _ _ ⟨b16, rfl, rfl⟩
          refine WO.toL [slc 35 3 v_0 String.length (fl Vl.cells String), F, mapAt sv Vl.val b1 c2_1, pt b16 (.cells #[.string (ByteArray.mk #[]), .int .i64 0, .int .u64 0] 35 (0, 0))] rfl ?_
          refine WO.step (SO.of rfl (EO.store 3 _ rfl rfl Tryz.sizeOf35 rfl rfl rfl rfl)) rfl ?_
          rintro _ _ rfl
          refine WO.toL [slc 35 3 v_0 String.length (fl Vl.cells String), F, mapAt sv Vl.val b1 c2_1, pt b16 (.cells #[.string x15.Name, .int .i64 x15.W, .int .u64 x15.Num] 35 (0, 0))] rfl ?_
          refine WO.nil ?_
          refine WP.seq ?_
          obtain ⟨x27, hx27, hs⟩ := lt_elim hs
          refine WP.draw (γ := Unit) Tryz.mixedEv [some 45, some 46, some 47, some 48, some 49, some 50, some 51, some 52, some 53, some 54, some 55, some 56, some 57, some 58, some 59, some 60, some 61, some 62, some 63] rfl [(2, .map none), (3, .int .i64 0), (4, .map (some b1)), (39, v_0), (40, .int .i64 (String.length : Int)), (41, .int .i64 c13_0), (10, .pointer (some ⟨b16, 0, none⟩))] ⟨rfl, rfl, rfl, rfl, rfl, rfl, rfl, trivial⟩ (fun g17 => [.pointer (some ⟨b16, 1, none⟩), .int .i64 x15.W, .bool (decide (x15.W < 0)), .bool (decide (x15.W < 0)), gd (!(decide (x15.W < 0))) (.pointer (some ⟨b16, 1, none⟩)), gd (!(decide (x15.W < 0))) (.int .i64 x15.W), gd (!(decide (x15.W < 0))) (.bool (decide (64 < x15.W))), .bool ((decide (x15.W < 0)) || (decide (64 < x15.W))), .bool ((decide (x15.W < 0)) || (decide (64 < x15.W))), gd (!((decide (x15.W < 0)) || (decide (64 < x15.W)))) (.pointer (some ⟨b16, 1, none⟩)), gd (!((decide (x15.W < 0)) || (decide (64 < x15.W)))) (.int .i64 x15.W), gd (!((decide (x15.W < 0)) || (decide (64 < x15.W)))) (.int .i64 (maxI x15.W 1)), gd (!((decide (x15.W < 0)) || (decide (64 < x15.W)))) (.pointer (some ⟨b16, 2, none⟩)), gd (!((decide (x15.W < 0)) || (decide (64 < x15.W)))) (.int .u64 x15.Num), gd (!((decide (x15.W < 0)) || (decide (64 < x15.W)))) (.int .u64 x27), gd (!((decide (x15.W < 0)) || (decide (64 < x15.W)))) (.pointer (some ⟨b16, 2, none⟩)), gd (!((decide (x15.W < 0)) || (decide (64 < x15.W)))) (.int .u64 x15.Num), gd (!((decide (x15.W < 0)) || (decide (64 < x15.W)))) (.bool (x27 != x15.Num)), .bool (((decide (x15.W < 0)) || (decide (64 < x15.W))) || (x27 != x15.Num))]) [⟨[], 0, 0, false⟩, ⟨[0], 0, 0, false⟩, ⟨[1], 0, 0, false⟩, ⟨[2], 0, 0, false⟩, ⟨[3], 0, 0, false⟩, ⟨[4, 3], 0, 0, false⟩, ⟨[5, 3], 0, 0, false⟩, ⟨[3, 6], 0, 0, false⟩, ⟨[7], 0, 0, false⟩, ⟨[8], 0, 0, false⟩, ⟨[9, 8], 0, 0, false⟩, ⟨[10, 8], 0, 0, false⟩, ⟨[8], 0, 0, false⟩, ⟨[12, 8], 0, 0, false⟩, ⟨[11, 13, 8, 8], 0, 0, false⟩, ⟨[8], 0, 0, false⟩, ⟨[15, 8], 0, 0, false⟩, ⟨[14, 16, 8], 0, 0, false⟩, ⟨[8, 17], 0, 0, false⟩] [] (fun g17 => [[slc 35 3 v_0 String.length (fl Vl.cells String), F, mapAt sv Vl.val b1 c2_1, pt b16 (.cells #[.string x15.Name, .int .i64 x15.W, .int .u64 x15.Num] 35 (0, 0))]]) rfl rfl rfl ⟨(fun g17 => SO.at (SO.val (PO.fieldAddr rfl Tryz.runUnderlying35 rfl Tryz.sizeOf3 rfl) rfl) rfl rfl), (fun g17 => SO.at (SO.val (PO.load 3 rfl Tryz.isAgg3 rfl rfl) rfl) rfl rfl), (fun g17 => SO.at (SO.val (PO.lss rfl rfl) rfl) rfl rfl), (fun g17 => SO.at (SO.val (PO.move rfl) rfl) rfl rfl), (fun g17 => SO.at (SO.guardF rfl rfl (fun hg18 => (PO.fieldAddr rfl Tryz.runUnderlying35 rfl Tryz.sizeOf3 rfl).vo)) rfl rfl), (fun g17 => SO.at (SO.guardF rfl rfl (fun hg19 => (PO.load 3 (evg hg19 rfl) Tryz.isAgg3 rfl rfl).vo)) rfl rfl), (fun g17 => SO.at (SO.guardF rfl rfl (fun hg20 => (PO.gtr (evg hg20 rfl) rfl).vo)) rfl rfl), (fun g17 => SO.at (SO.val (PO.pickO rfl rfl rfl) rfl) rfl rfl), (fun g17 => SO.at (SO.val (PO.move rfl) rfl) rfl rfl), (fun g17 => SO.at (SO.guardF rfl rfl (fun hg21 => (PO.fieldAddr rfl Tryz.runUnderlying35 rfl Tryz.sizeOf3 rfl).vo)) rfl rfl), (fun g17 => SO.at (SO.guardF rfl rfl (fun hg22 => (PO.load 3 (evg hg22 rfl) Tryz.isAgg3 rfl rfl).vo)) rfl rfl), (fun g17 => SO.at (SO.guardF rfl rfl (fun hg23 => (PO.max2 (evg hg23 rfl) rfl).vo)) rfl rfl), (fun g17 => SO.at (SO.guardF rfl rfl (fun hg24 => (PO.fieldAddr rfl Tryz.runUnderlying35 rfl Tryz.sizeOf33 rfl).vo)) rfl rfl), (fun g17 => SO.at (SO.guardF rfl rfl (fun hg25 => (PO.load 3 (evg hg25 rfl) Tryz.isAgg33 rfl rfl).vo)) rfl rfl), (fun g17 => SO.at (SO.guardF rfl rfl (fun hg26 => VO.call0 Tryz.call58 (evs_cons (evg hg26 rfl) (evs_cons (evg hg26 rfl) evs_nil)) (t_Trim hx27))) rfl rfl), (fun g17 => SO.at (SO.guardF rfl rfl (fun hg28 => (PO.fieldAddr rfl Tryz.runUnderlying35 rfl Tryz.sizeOf33 rfl).vo)) rfl rfl), (fun g17 => SO.at (SO.guardF rfl rfl (fun hg29 => (PO.load 3 (evg hg29 rfl) Tryz.isAgg33 rfl rfl).vo)) rfl rfl), (fun g17 => SO.at (SO.guardF rfl rfl (fun hg30 => (PO.neq (evg hg30 rfl) (evg hg30 rfl)).vo)) rfl rfl), (fun g17 => SO.at (SO.val (PO.pickO rfl rfl rfl) rfl) rfl rfl), trivial⟩ (fun g17 => [slc 35 3 v_0 String.length (fl Vl.cells String), F, mapAt sv Vl.val b1 c2_1, pt b16 (.cells #[.string x15.Name, .int .i64 x15.W, .int .u64 x15.Num] 35 (0, 0))]) (fun _ => rfl) (fun g17 => [(45, .pointer (some ⟨b16, 1, none⟩)), (46, .int .i64 x15.W), (47, .bool (decide (x15.W < 0))), (48, .bool (decide (x15.W < 0))), (49, gd (!(decide (x15.W < 0))) (.pointer (some ⟨b16, 1, none⟩))), (50, gd (!(decide (x15.W < 0))) (.int .i64 x15.W)), (51, gd (!(decide (x15.W < 0))) (.bool (decide (64 < x15.W)))), (52, .bool ((decide (x15.W < 0)) || (decide (64 < x15.W)))), (53, .bool ((decide (x15.W < 0)) || (decide (64 < x15.W)))), (54, gd (!((decide (x15.W < 0)) || (decide (64 < x15.W)))) (.pointer (some ⟨b16, 1, none⟩))), (55, gd (!((decide (x15.W < 0)) || (decide (64 < x15.W)))) (.int .i64 x15.W)), (56, gd (!((decide (x15.W < 0)) || (decide (64 < x15.W)))) (.int .i64 (maxI x15.W 1))), (57, gd (!((decide (x15.W < 0)) || (decide (64 < x15.W)))) (.pointer (some ⟨b16, 2, none⟩))), (58, gd (!((decide (x15.W < 0)) || (decide (64 < x15.W)))) (.int .u64 x15.Num)), (59, gd (!((decide (x15.W < 0)) || (decide (64 < x15.W)))) (.int .u64 x27)), (60, gd (!((decide (x15.W < 0)) || (decide (64 < x15.W)))) (.pointer (some ⟨b16, 2, none⟩))), (61, gd (!((decide (x15.W < 0)) || (decide (64 < x15.W)))) (.int .u64 x15.Num)), (62, gd (!((decide (x15.W < 0)) || (decide (64 < x15.W)))) (.bool (x27 != x15.Num))), (63, .bool (((decide (x15.W < 0)) || (decide (64 < x15.W))) || (x27 != x15.Num))), (2, .map none), (3, .int .i64 0), (4, .map (some b1)), (39, v_0), (40, .int .i64 (String.length : Int)), (41, .int .i64 c13_0), (10, .pointer (some ⟨b16, 0, none⟩))]) (fun _ => rfl) (fun g17 => ?_)
          refine WP.cond rfl (fun h31 => ?_) (fun h31 => ?_)
          · replace hs := cond_t h31 hs
            refine WP.seq ?_
            refine WP.region ?_
            refine WO.val (PO.assign rfl) rfl ?_
            refine WO.val (PO.assign rfl) rfl ?_
            refine WO.nil ?_
            refine WP.ret ?_
            cases hs
          · replace hs := cond_f h31 hs
            refine WP.skip ?_
            refine WP.region ?_
            refine WO.val (PO.add rfl rfl) rfl ?_
            refine WO.val (PO.move rfl) rfl ?_
            refine WO.nil ?_
            exact ⟨c13_k, _, Nat.lt_succ_self _, ⟨(IntKind.i64.wrap (c13_0 + 1)), ⟨rfl, rfl, rfl, rfl, rfl, rfl, trivial⟩, rfl, hs⟩, fun _ s => s.pre⟩
        · replace hs := cond_f h14 hs
          refine WP.exit (inX.hit ?_)
          refine WP.seq ?_
          refine WP.region ?_
          refine WO.val (PO.move rfl) rfl ?_
          refine WO.val (PO.assign rfl) rfl ?_
          refine WO.val (PO.assign rfl) rfl ?_
          refine WO.nil ?_
          refine WP.ret ?_
          obtain rfl := Option.some.inj hs
          exact ⟨_, b1, _, _, rfl, Res.two (RV.tmp rfl) (RV.tmp rfl), rfl, fun _ s => Sat.out [0, 2, 1] rfl s⟩
attribute [irreducible] s_Ev_told

/- cadence/eval.Values -/
def s_Ev_Values_l1 (s : List Int) (c12_1 : List (Int × Int)) : Nat → Int → (List Int) → Option ((List Int) × Int)
  | 0, _, _ => none
  | c26_k + 1, c26_0, c26_2 =>
    cond (decide (c26_0 < (s.length : Int)))
      ((getI s c26_0).bind fun x28 =>
      if (c26_2.length + 1) * 8 ≤ 140737488355328 then (s_Ev_Values_l1 s c12_1 c26_k (IntKind.i64.wrap (c26_0 + 1)) (c26_2 ++ [((mget c12_1 x28).getD 0)])) else none)
      (some (c26_2, 0))
def s_Ev_Values_l0 (S : St) (s : List Int) (k : Nat) (x2 : ((List Int) × Int)) (x6 : ((List (ByteArray × Vl)) × Int)) : Nat → Int → (List (Int × Int)) → (List (Int × Int)) → Option ((List Int) × Int)
  | 0, _, _, _ => none
  | c12_k + 1, c12_0, c12_1, c12_2 =>
    cond (decide (c12_0 < (x2.1.length : Int)))
      ((getI x2.1 c12_0).bind fun x14 =>
      (s_St_Node S x14).bind fun x15 =>
      cond (x15.1.Op != 4)
        ((s_Ev_node x15.1 ((mget c12_1 x15.1.A).getD 0) ((mget c12_1 x15.1.B).getD 0) ((mget c12_1 x15.1.C).getD 0) ((mget (mput c12_2 x14 x15.1.W) x15.1.A).getD 0) ((mget (mput c12_2 x14 x15.1.W) x15.1.B).getD 0)).bind fun x18 =>
        s_Ev_Values_l0 S s k x2 x6 c12_k (IntKind.i64.wrap (c12_0 + 1)) (mput c12_1 x14 x18) (mput c12_2 x14 x15.1.W))
        (cond ((mget x6.1 x15.1.Name).isSome)
          (cond ((((mget x6.1 x15.1.Name).getD ⟨(ByteArray.mk #[]), 0, 0⟩).W) != x15.1.W)
            (some (([] : List Int), 71))
            (s_Ev_Values_l0 S s k x2 x6 c12_k (IntKind.i64.wrap (c12_0 + 1)) (mput c12_1 x14 (((mget x6.1 x15.1.Name).getD ⟨(ByteArray.mk #[]), 0, 0⟩).Num)) (mput c12_2 x14 x15.1.W)))
          (s_Ev_Values_l0 S s k x2 x6 c12_k (IntKind.i64.wrap (c12_0 + 1)) c12_1 (mput c12_2 x14 x15.1.W))))
      (if 0 ≤ (0 : Int) ∧ (0 : Int) ≤ (s.length : Int) ∧ (s.length : Int) * 8 ≤ 140737488355328 then (s_Ev_Values_l1 s c12_1 k 0 (List.replicate (0 : Int).toNat (0 : Int))) else none)
def s_Ev_Values (k : Nat) (S : St) (s : List Int) (roots : List Vl) : Option ((List Int) × Int) :=
  (s_St_Order k S s).bind fun x2 =>
  cond (x2.2 != 0)
    (some (([] : List Int), x2.2))
    ((s_Ev_told k roots).bind fun x6 =>
    cond (x6.2 != 0)
      (some (([] : List Int), x6.2))
      (s_Ev_Values_l0 S s k x2 x6 k 0 ([]) ([])))
theorem t_Ev_Values {k : Nat} {p0 : Nat} {v_1 : Value} {v_2 : Value} {S : St} {s : List Int} {roots : List Vl} {r : (List Int) × Int}
    (hs : s_Ev_Values k S s roots = some r) :
    TriX Tryz.prog 17 [.pointer (some ⟨p0, 0, none⟩), v_1, v_2] [stAt p0 S, slc 3 1 v_1 s.length (fl ic s), slc 35 3 v_2 roots.length (fl Vl.cells roots)] (.ok r) faultV (fun (a_ : (List Int) × Int) (c : Value) => .tuple #[c, .int .i64 a_.2]) (fun a_ c => [stAt p0 S, slc 3 1 v_1 s.length (fl ic s), slc 35 3 v_2 roots.length (fl Vl.cells roots), slc 33 1 c a_.1.length (fl uc a_.1)]) := by
  unfold s_Ev_Values at hs
  refine TriX.of Tryz.func17 rfl Tryz.ntmps17 Tryz.results17 rfl (fun w0 F => ?_)
  refine WP.seq ?_
  refine WP.region ?_
  refine WO.heap [stAt p0 S, slc 3 1 v_1 s.length (fl ic s), slc 35 3 v_2 roots.length (fl Vl.cells roots), F, slc 33 1 (nils 1) ([] : List Int).length (fl uc ([] : List Int))] (fun _ s => s.addNil 33 1 1) ?_
  refine WO.val (PO.assign (v := (nils 1)) rfl) rfl ?_
  refine WO.val (PO.assign rfl) rfl ?_
  refine WO.nil ?_
  refine WP.seq ?_
  refine WP.seq ?_
  refine WP.region ?_
  refine WO.val (PO.move rfl) rfl ?_
  refine WO.val (PO.eqlPN rfl rfl Tryz.runUnderlying23) rfl ?_
  refine WO.nil ?_
  refine WP.condF rfl ?_
  refine WP.skip ?_
  refine WP.seq ?_
  refine WP.region ?_
  refine WO.val (PO.move rfl) rfl ?_
  refine WO.val (PO.move rfl) rfl ?_
  obtain ⟨x2, hx2, hs⟩ := bind_elim hs
  refine WO.step (SO.of rfl (EO.callX [0, 1] Tryz.call26 rfl rfl (t_St_Order hx2) (fun _ => ⟨rfl, rfl, trivial⟩))) rfl ?_
  rintro _ _ ⟨v3, rfl, rfl⟩
  refine WO.toL [stAt p0 S, slc 3 1 v_1 s.length (fl ic s), slc 35 3 v_2 roots.length (fl Vl.cells roots), F, slc 33 1 (nils 1) ([] : List Int).length (fl uc ([] : List Int)), slc 3 1 v3 x2.1.length (fl ic x2.1)] rfl ?_
  refine WO.val (PO.move rfl) rfl ?_
  refine WO.val (PO.extract rfl rfl) rfl ?_
  refine WO.val (PO.extract rfl rfl) rfl ?_
  refine WO.val (PO.assign rfl) rfl ?_
  refine WO.val (PO.assign rfl) rfl ?_
  refine WO.nil ?_
  refine WP.seq ?_
  refine WP.seq ?_
  refine WP.region ?_
  refine WO.val (PO.move rfl) rfl ?_
  refine WO.val (PO.neq rfl rfl) rfl ?_
  refine WO.nil ?_
  refine WP.cond rfl (fun h4 => ?_) (fun h4 => ?_)
  · replace hs := cond_t h4 hs
    refine WP.seq ?_
    refine WP.region ?_
    refine WO.val (PO.move rfl) rfl ?_
    refine WO.heap [stAt p0 S, slc 3 1 v_1 s.length (fl ic s), slc 35 3 v_2 roots.length (fl Vl.cells roots), F, slc 33 1 (nils 1) ([] : List Int).length (fl uc ([] : List Int)), slc 3 1 v3 x2.1.length (fl ic x2.1), slc 33 1 (nils 5) ([] : List Int).length (fl uc ([] : List Int))] (fun _ s => s.addNil 33 1 5) ?_
    refine WO.val (PO.assign (v := (nils 5)) rfl) rfl ?_
    refine WO.val (PO.assign rfl) rfl ?_
    refine WO.nil ?_
    refine WP.ret ?_
    obtain rfl := Option.some.inj hs
    exact ⟨_, (nils 5), _, _, rfl, Res.two (RV.tmp rfl) (RV.tmp rfl), rfl, fun _ s => Sat.out [0, 1, 2, 6, 3] rfl s⟩
  · replace hs := cond_f h4 hs
    refine WP.skip ?_
    refine WP.seq ?_
    refine WP.region ?_
    refine WO.val (PO.move rfl) rfl ?_
    obtain ⟨x6, hx6, hs⟩ := bind_elim hs
    refine WO.step (SO.of rfl (EO.callX [2] Tryz.call33 rfl rfl (t_Ev_told hx6) (fun _ => ⟨rfl, trivial⟩))) rfl ?_
    rintro _ _ ⟨b7, rfl, rfl⟩
    refine WO.toL [stAt p0 S, slc 3 1 v_1 s.length (fl ic s), slc 35 3 v_2 roots.length (fl Vl.cells roots), F, slc 33 1 (nils 1) ([] : List Int).length (fl uc ([] : List Int)), slc 3 1 v3 x2.1.length (fl ic x2.1), mapAt sv Vl.val b7 x6.1] rfl ?_
    refine WO.val (PO.move rfl) rfl ?_
    refine WO.val (PO.extract rfl rfl) rfl ?_
    refine WO.val (PO.extract rfl rfl) rfl ?_
    refine WO.val (PO.assign rfl) rfl ?_
    refine WO.val (PO.assign rfl) rfl ?_
    refine WO.nil ?_
    refine WP.seq ?_
    refine WP.seq ?_
    refine WP.region ?_
    refine WO.val (PO.move rfl) rfl ?_
    refine WO.val (PO.neq rfl rfl) rfl ?_
    refine WO.nil ?_
    refine WP.cond rfl (fun h8 => ?_) (fun h8 => ?_)
    · replace hs := cond_t h8 hs
      refine WP.seq ?_
      refine WP.region ?_
      refine WO.val (PO.move rfl) rfl ?_
      refine WO.heap [stAt p0 S, slc 3 1 v_1 s.length (fl ic s), slc 35 3 v_2 roots.length (fl Vl.cells roots), F, slc 33 1 (nils 1) ([] : List Int).length (fl uc ([] : List Int)), slc 3 1 v3 x2.1.length (fl ic x2.1), mapAt sv Vl.val b7 x6.1, slc 33 1 (nils 9) ([] : List Int).length (fl uc ([] : List Int))] (fun _ s => s.addNil 33 1 9) ?_
      refine WO.val (PO.assign (v := (nils 9)) rfl) rfl ?_
      refine WO.val (PO.assign rfl) rfl ?_
      refine WO.nil ?_
      refine WP.ret ?_
      obtain rfl := Option.some.inj hs
      exact ⟨_, (nils 9), _, _, rfl, Res.two (RV.tmp rfl) (RV.tmp rfl), rfl, fun _ s => Sat.out [0, 1, 2, 7, 3] rfl s⟩
    · replace hs := cond_f h8 hs
      refine WP.skip ?_
      refine WP.seq ?_
      refine WP.region ?_
      refine WO.val (PO.move rfl) rfl ?_
      refine WO.val (PO.lenL 5 rfl Tryz.runUnderlying24 rfl) rfl ?_
      refine WO.step (SO.of rfl (EO.makeMapN (kv := iv) (vv := uv) rfl Tryz.runUnderlying85)) rfl ?_
      rintro _ _ ⟨b10, rfl, rfl⟩
      refine WO.toL [stAt p0 S, slc 3 1 v_1 s.length (fl ic s), slc 35 3 v_2 roots.length (fl Vl.cells roots), F, slc 33 1 (nils 1) ([] : List Int).length (fl uc ([] : List Int)), slc 3 1 v3 x2.1.length (fl ic x2.1), mapAt sv Vl.val b7 x6.1, mapAt iv uv b10 ([])] rfl ?_
      refine WO.val (PO.assign rfl) rfl ?_
      refine WO.nil ?_
      refine WP.seq ?_
      refine WP.region ?_
      refine WO.val (PO.move rfl) rfl ?_
      refine WO.val (PO.lenL 5 rfl Tryz.runUnderlying24 rfl) rfl ?_
      refine WO.step (SO.of rfl (EO.makeMapN (kv := iv) (vv := iv) rfl Tryz.runUnderlying86)) rfl ?_
      rintro _ _ ⟨b11, rfl, rfl⟩
      refine WO.toL [stAt p0 S, slc 3 1 v_1 s.length (fl ic s), slc 35 3 v_2 roots.length (fl Vl.cells roots), F, slc 33 1 (nils 1) ([] : List Int).length (fl uc ([] : List Int)), slc 3 1 v3 x2.1.length (fl ic x2.1), mapAt sv Vl.val b7 x6.1, mapAt iv uv b10 ([]), mapAt iv iv b11 ([])] rfl ?_
      refine WO.val (PO.assign rfl) rfl ?_
      refine WO.nil ?_
      refine WP.seq ?_
      refine WP.seq ?_
      refine WP.region ?_
      refine WO.val (PO.move rfl) rfl ?_
      refine WO.val (PO.lenL 5 rfl Tryz.runUnderlying24 rfl) rfl ?_
      refine WO.val (PO.move rfl) rfl ?_
      refine WO.nil ?_
      refine WP.block ?_
      refine WP.loopG (fun c12_k f_ L_ => ∃ (c12_0 : Int) (c12_1 : List (Int × Int)) (c12_2 : List (Int × Int)), Holds f_ [(0, .pointer (some ⟨p0, 0, none⟩)), (1, v_1), (6, (nils 1)), (7, .int .i64 0), (10, .map (some b7)), (11, .map (some b10)), (12, .map (some b11)), (47, v3), (48, .int .i64 (x2.1.length : Int)), (49, .int .i64 c12_0)] ∧ L_ = [stAt p0 S, slc 3 1 v_1 s.length (fl ic s), slc 35 3 v_2 roots.length (fl Vl.cells roots), F, slc 33 1 (nils 1) ([] : List Int).length (fl uc ([] : List Int)), slc 3 1 v3 x2.1.length (fl ic x2.1), mapAt sv Vl.val b7 x6.1, mapAt iv uv b10 c12_1, mapAt iv iv b11 c12_2] ∧ s_Ev_Values_l0 S s k x2 x6 c12_k c12_0 c12_1 c12_2 = some r) k ⟨0, [], [], ⟨rfl, rfl, rfl, rfl, rfl, rfl, rfl, rfl, rfl, rfl, trivial⟩, rfl, hs⟩ ?_
      rintro c12_k f_ L_ ⟨c12_0, c12_1, c12_2, hf_, rfl, hs⟩
      refine WP.keep [(0, .pointer (some ⟨p0, 0, none⟩)), (1, v_1), (6, (nils 1)), (7, .int .i64 0), (10, .map (some b7)), (11, .map (some b10)), (12, .map (some b11)), (47, v3), (48, .int .i64 (x2.1.length : Int)), (49, .int .i64 c12_0)] hf_ ?_
      cases c12_k with
      | zero => exact nomatch (show none = some r from hs)
      | succ c12_k =>
        rw [s_Ev_Values_l0.eq_2] at hs
        refine WP.seq ?_
        refine WP.region ?_
        refine WO.val (PO.lss rfl rfl) rfl ?_
        refine WO.nil ?_
        refine WP.seq ?_
        refine WP.cond rfl (fun h13 => ?_) (fun h13 => ?_)
        · replace hs := cond_t h13 hs
          refine WP.skip ?_
          refine WP.seq ?_
          refine WP.block ?_
          refine WP.seq ?_
          refine WP.region ?_
          obtain ⟨x14, hx14, hs⟩ := bind_elim hs
          refine WO.val (PO.idxL 5 rfl rfl Tryz.runUnderlying24 Tryz.sizeOf3 rfl hx14) rfl ?_
          refine WO.val (PO.loadL 5 rfl Tryz.isAgg3 rfl (fl_at (c := ic) (k := 1) (j := 0) (fun _ => rfl) hx14 rfl)) rfl ?_
          refine WO.val (PO.assign rfl) rfl ?_
          refine WO.nil ?_
          refine WP.seq ?_
          refine WP.region ?_
          refine WO.val (PO.move rfl) rfl ?_
          refine WO.val (PO.move rfl) rfl ?_
          obtain ⟨x15, hx15, hs⟩ := bind_elim hs
          refine WO.vo (VO.call1 0 Tryz.call15 rfl rfl (t_St_Node hx15)) rfl ?_
          refine WO.val (PO.move rfl) rfl ?_
          refine WO.val (PO.extract rfl rfl) rfl ?_
          refine WO.val (PO.extract rfl rfl) rfl ?_
          refine WO.step (SO.of rfl (EO.alloc Tryz.zeroValue45)) rfl ?_
          rintro _ _ ⟨b16, rfl, rfl⟩
          refine WO.toL [stAt p0 S, slc 3 1 v_1 s.length (fl ic s), slc 35 3 v_2 roots.length (fl Vl.cells roots), F, slc 33 1 (nils 1) ([] : List Int).length (fl uc ([] : List Int)), slc 3 1 v3 x2.1.length (fl ic x2.1), mapAt sv Vl.val b7 x6.1, mapAt iv uv b10 c12_1, mapAt iv iv b11 c12_2, pt b16 (.cells #[.int .i64 0, .int .i64 0, .int .i64 0, .int .i64 0, .int .i64 0, .int .u64 0, .string (ByteArray.mk #[])] 45 (0, 0))] rfl ?_
          refine WO.step (SO.of rfl (EO.store 9 _ rfl rfl Tryz.sizeOf45 rfl rfl rfl rfl)) rfl ?_
          rintro _ _ rfl
          refine WO.toL [stAt p0 S, slc 3 1 v_1 s.length (fl ic s), slc 35 3 v_2 roots.length (fl Vl.cells roots), F, slc 33 1 (nils 1) ([] : List Int).length (fl uc ([] : List Int)), slc 3 1 v3 x2.1.length (fl ic x2.1), mapAt sv Vl.val b7 x6.1, mapAt iv uv b10 c12_1, mapAt iv iv b11 c12_2, pt b16 (.cells #[.int .i64 x15.1.Op, .int .i64 x15.1.W, .int .i64 x15.1.A, .int .i64 x15.1.B, .int .i64 x15.1.C, .int .u64 x15.1.Num, .string x15.1.Name] 45 (0, 0))] rfl ?_
          refine WO.val (PO.assign rfl) rfl ?_
          refine WO.nil ?_
          refine WP.seq ?_
          refine WP.region ?_
          refine WO.val (PO.move rfl) rfl ?_
          refine WO.val (PO.move rfl) rfl ?_
          refine WO.val (PO.fieldAddr rfl Tryz.runUnderlying45 rfl Tryz.sizeOf3 rfl) rfl ?_
          refine WO.val (PO.load 9 rfl Tryz.isAgg3 rfl rfl) rfl ?_
          refine WO.step (SO.of rfl (EO.mapUpdate (a := x14) (b := x15.1.W) 8 _ int_key rfl rfl rfl Tryz.runUnderlying86 rfl rfl)) rfl ?_
          rintro _ _ rfl
          refine WO.toL [stAt p0 S, slc 3 1 v_1 s.length (fl ic s), slc 35 3 v_2 roots.length (fl Vl.cells roots), F, slc 33 1 (nils 1) ([] : List Int).length (fl uc ([] : List Int)), slc 3 1 v3 x2.1.length (fl ic x2.1), mapAt sv Vl.val b7 x6.1, mapAt iv uv b10 c12_1, mapAt iv iv b11 (mput c12_2 x14 x15.1.W), pt b16 (.cells #[.int .i64 x15.1.Op, .int .i64 x15.1.W, .int .i64 x15.1.A, .int .i64 x15.1.B, .int .i64 x15.1.C, .int .u64 x15.1.Num, .string x15.1.Name] 45 (0, 0))] rfl ?_
          refine WO.nil ?_
          refine WP.seq ?_
          refine WP.seq ?_
          refine WP.region ?_
          refine WO.val (PO.fieldAddr rfl Tryz.runUnderlying45 rfl Tryz.sizeOf3 rfl) rfl ?_
          refine WO.val (PO.load 9 rfl Tryz.isAgg3 rfl rfl) rfl ?_
          refine WO.val (PO.neq rfl rfl) rfl ?_
          refine WO.nil ?_
          refine WP.cond rfl (fun h17 => ?_) (fun h17 => ?_)
          · replace hs := cond_t h17 hs
            refine WP.seq ?_
            refine WP.region ?_
            refine WO.val (PO.move rfl) rfl ?_
            refine WO.val (PO.move rfl) rfl ?_
            refine WO.val (PO.loadAgg 9 rfl Tryz.isAgg45 Tryz.sizeOf45 rfl rfl rfl) rfl ?_
            refine WO.val (PO.move rfl) rfl ?_
            refine WO.val (PO.fieldAddr rfl Tryz.runUnderlying45 rfl Tryz.sizeOf3 rfl) rfl ?_
            refine WO.val (PO.load 9 rfl Tryz.isAgg3 rfl rfl) rfl ?_
            refine WO.val (PO.lookup1 (a := x15.1.A) (z := 0) 7 int_key rfl rfl Tryz.runUnderlying85 Tryz.zeroValue33 rfl) rfl ?_
            refine WO.val (PO.move rfl) rfl ?_
            refine WO.val (PO.fieldAddr rfl Tryz.runUnderlying45 rfl Tryz.sizeOf3 rfl) rfl ?_
            refine WO.val (PO.load 9 rfl Tryz.isAgg3 rfl rfl) rfl ?_
            refine WO.val (PO.lookup1 (a := x15.1.B) (z := 0) 7 int_key rfl rfl Tryz.runUnderlying85 Tryz.zeroValue33 rfl) rfl ?_
            refine WO.val (PO.move rfl) rfl ?_
            refine WO.val (PO.fieldAddr rfl Tryz.runUnderlying45 rfl Tryz.sizeOf3 rfl) rfl ?_
            refine WO.val (PO.load 9 rfl Tryz.isAgg3 rfl rfl) rfl ?_
            refine WO.val (PO.lookup1 (a := x15.1.C) (z := 0) 7 int_key rfl rfl Tryz.runUnderlying85 Tryz.zeroValue33 rfl) rfl ?_
            refine WO.val (PO.move rfl) rfl ?_
            refine WO.val (PO.fieldAddr rfl Tryz.runUnderlying45 rfl Tryz.sizeOf3 rfl) rfl ?_
            refine WO.val (PO.load 9 rfl Tryz.isAgg3 rfl rfl) rfl ?_
            refine WO.val (PO.lookup1 (a := x15.1.A) (z := 0) 8 int_key rfl rfl Tryz.runUnderlying86 Tryz.zeroValue3 rfl) rfl ?_
            refine WO.val (PO.move rfl) rfl ?_
            refine WO.val (PO.fieldAddr rfl Tryz.runUnderlying45 rfl Tryz.sizeOf3 rfl) rfl ?_
            refine WO.val (PO.load 9 rfl Tryz.isAgg3 rfl rfl) rfl ?_
            refine WO.val (PO.lookup1 (a := x15.1.B) (z := 0) 8 int_key rfl rfl Tryz.runUnderlying86 Tryz.zeroValue3 rfl) rfl ?_
            obtain ⟨x18, hx18, hs⟩ := bind_elim hs
            have tx19 := t_Ev_node hx18
            refine WO.vo (VO.call0 Tryz.call34 rfl tx19) rfl ?_
            refine WO.step (SO.of rfl (EO.mapUpdate (a := x14) (b := x18) 7 _ int_key rfl rfl rfl Tryz.runUnderlying85 rfl rfl)) rfl ?_
            rintro _ _ rfl
            refine WO.toL [stAt p0 S, slc 3 1 v_1 s.length (fl ic s), slc 35 3 v_2 roots.length (fl Vl.cells roots), F, slc 33 1 (nils 1) ([] : List Int).length (fl uc ([] : List Int)), slc 3 1 v3 x2.1.length (fl ic x2.1), mapAt sv Vl.val b7 x6.1, mapAt iv uv b10 (mput c12_1 x14 x18), mapAt iv iv b11 (mput c12_2 x14 x15.1.W), pt b16 (.cells #[.int .i64 x15.1.Op, .int .i64 x15.1.W, .int .i64 x15.1.A, .int .i64 x15.1.B, .int .i64 x15.1.C, .int .u64 x15.1.Num, .string x15.1.Name] 45 (0, 0))] rfl ?_
            refine WO.nil ?_
            refine WP.exit (inX.hit ?_)
            refine WP.region ?_
            refine WO.val (PO.add rfl rfl) rfl ?_
            refine WO.val (PO.move rfl) rfl ?_
            refine WO.nil ?_
            exact ⟨c12_k, _, Nat.lt_succ_self _, ⟨(IntKind.i64.wrap (c12_0 + 1)), (mput c12_1 x14 x18), (mput c12_2 x14 x15.1.W), ⟨rfl, rfl, rfl, rfl, rfl, rfl, rfl, rfl, rfl, rfl, trivial⟩, rfl, hs⟩, fun _ s => s.pre⟩
          · replace hs := cond_f h17 hs
            refine WP.skip ?_
            refine WP.seq ?_
            refine WP.region ?_
            refine WO.val (PO.move rfl) rfl ?_
            refine WO.val (PO.fieldAddr rfl Tryz.runUnderlying45 rfl Tryz.sizeOf9 rfl) rfl ?_
            refine WO.val (PO.load 9 rfl Tryz.isAgg9 rfl rfl) rfl ?_
            refine WO.val (PO.lookup2 (a := x15.1.Name) (z := ⟨(ByteArray.mk #[]), 0, 0⟩) 6 str_key rfl rfl Tryz.runUnderlying82 Tryz.zeroValue35 rfl) rfl ?_
            refine WO.val (PO.move rfl) rfl ?_
            refine WO.val (PO.extract rfl rfl) rfl ?_
            refine WO.val (PO.extract rfl rfl) rfl ?_
            refine WO.step (SO.of rfl (EO.alloc Tryz.zeroValue35)) rfl ?_
            rintro _ _ ⟨b20, rfl, rfl⟩
            refine WO.toL [stAt p0 S, slc 3 1 v_1 s.length (fl ic s), slc 35 3 v_2 roots.length (fl Vl.cells roots), F, slc 33 1 (nils 1) ([] : List Int).length (fl uc ([] : List Int)), slc 3 1 v3 x2.1.length (fl ic x2.1), mapAt sv Vl.val b7 x6.1, mapAt iv uv b10 c12_1, mapAt iv iv b11 (mput c12_2 x14 x15.1.W), pt b16 (.cells #[.int .i64 x15.1.Op, .int .i64 x15.1.W, .int .i64 x15.1.A, .int .i64 x15.1.B, .int .i64 x15.1.C, .int .u64 x15.1.Num, .string x15.1.Name] 45 (0, 0)), pt b20 (.cells #[.string (ByteArray.mk #[]), .int .i64 0, .int .u64 0] 35 (0, 0))] rfl ?_
            refine WO.step (SO.of rfl (EO.store 10 _ rfl rfl Tryz.sizeOf35 rfl rfl rfl rfl)) rfl ?_
            rintro _ _ rfl
            refine WO.toL [stAt p0 S, slc 3 1 v_1 s.length (fl ic s), slc 35 3 v_2 roots.length (fl Vl.cells roots), F, slc 33 1 (nils 1) ([] : List Int).length (fl uc ([] : List Int)), slc 3 1 v3 x2.1.length (fl ic x2.1), mapAt sv Vl.val b7 x6.1, mapAt iv uv b10 c12_1, mapAt iv iv b11 (mput c12_2 x14 x15.1.W), pt b16 (.cells #[.int .i64 x15.1.Op, .int .i64 x15.1.W, .int .i64 x15.1.A, .int .i64 x15.1.B, .int .i64 x15.1.C, .int .u64 x15.1.Num, .string x15.1.Name] 45 (0, 0)), pt b20 (.cells #[.string (((mget x6.1 x15.1.Name).getD ⟨(ByteArray.mk #[]), 0, 0⟩).Name), .int .i64 (((mget x6.1 x15.1.Name).getD ⟨(ByteArray.mk #[]), 0, 0⟩).W), .int .u64 (((mget x6.1 x15.1.Name).getD ⟨(ByteArray.mk #[]), 0, 0⟩).Num)] 35 (0, 0))] rfl ?_
            refine WO.val (PO.assign rfl) rfl ?_
            refine WO.nil ?_
            refine WP.seq ?_
            refine WP.region ?_
            refine WO.val (PO.move rfl) rfl ?_
            refine WO.nil ?_
            refine WP.cond rfl (fun h21 => ?_) (fun h21 => ?_)
            · replace hs := cond_t h21 hs
              refine WP.seq ?_
              refine WP.seq ?_
              refine WP.region ?_
              refine WO.val (PO.fieldAddr rfl Tryz.runUnderlying35 rfl Tryz.sizeOf3 rfl) rfl ?_
              refine WO.val (PO.load 10 rfl Tryz.isAgg3 rfl rfl) rfl ?_
              refine WO.val (PO.fieldAddr rfl Tryz.runUnderlying45 rfl Tryz.sizeOf3 rfl) rfl ?_
              refine WO.val (PO.load 9 rfl Tryz.isAgg3 rfl rfl) rfl ?_
              refine WO.val (PO.neq rfl rfl) rfl ?_
              refine WO.nil ?_
              refine WP.cond rfl (fun h22 => ?_) (fun h22 => ?_)
              · replace hs := cond_t h22 hs
                refine WP.seq ?_
                refine WP.region ?_
                refine WO.heap [stAt p0 S, slc 3 1 v_1 s.length (fl ic s), slc 35 3 v_2 roots.length (fl Vl.cells roots), F, slc 33 1 (nils 1) ([] : List Int).length (fl uc ([] : List Int)), slc 3 1 v3 x2.1.length (fl ic x2.1), mapAt sv Vl.val b7 x6.1, mapAt iv uv b10 c12_1, mapAt iv iv b11 (mput c12_2 x14 x15.1.W), pt b16 (.cells #[.int .i64 x15.1.Op, .int .i64 x15.1.W, .int .i64 x15.1.A, .int .i64 x15.1.B, .int .i64 x15.1.C, .int .u64 x15.1.Num, .string x15.1.Name] 45 (0, 0)), pt b20 (.cells #[.string (((mget x6.1 x15.1.Name).getD ⟨(ByteArray.mk #[]), 0, 0⟩).Name), .int .i64 (((mget x6.1 x15.1.Name).getD ⟨(ByteArray.mk #[]), 0, 0⟩).W), .int .u64 (((mget x6.1 x15.1.Name).getD ⟨(ByteArray.mk #[]), 0, 0⟩).Num)] 35 (0, 0)), slc 33 1 (nils 23) ([] : List Int).length (fl uc ([] : List Int))] (fun _ s => s.addNil 33 1 23) ?_
                refine WO.val (PO.assign (v := (nils 23)) rfl) rfl ?_
                refine WO.val (PO.assign rfl) rfl ?_
                refine WO.nil ?_
                refine WP.ret ?_
                obtain rfl := Option.some.inj hs
                exact ⟨_, (nils 23), _, _, rfl, Res.two (RV.tmp rfl) (RV.tmp rfl), rfl, fun _ s => Sat.out [0, 1, 2, 11, 3] rfl s⟩
              · replace hs := cond_f h22 hs
                refine WP.skip ?_
                refine WP.region ?_
                refine WO.val (PO.move rfl) rfl ?_
                refine WO.val (PO.move rfl) rfl ?_
                refine WO.val (PO.fieldAddr rfl Tryz.runUnderlying35 rfl Tryz.sizeOf33 rfl) rfl ?_
                refine WO.val (PO.load 10 rfl Tryz.isAgg33 rfl rfl) rfl ?_
                refine WO.step (SO.of rfl (EO.mapUpdate (a := x14) (b := ((mget x6.1 x15.1.Name).getD ⟨(ByteArray.mk #[]), 0, 0⟩).Num) 7 _ int_key rfl rfl rfl Tryz.runUnderlying85 rfl rfl)) rfl ?_
                rintro _ _ rfl
                refine WO.toL [stAt p0 S, slc 3 1 v_1 s.length (fl ic s), slc 35 3 v_2 roots.length (fl Vl.cells roots), F, slc 33 1 (nils 1) ([] : List Int).length (fl uc ([] : List Int)), slc 3 1 v3 x2.1.length (fl ic x2.1), mapAt sv Vl.val b7 x6.1, mapAt iv uv b10 (mput c12_1 x14 (((mget x6.1 x15.1.Name).getD ⟨(ByteArray.mk #[]), 0, 0⟩).Num)), mapAt iv iv b11 (mput c12_2 x14 x15.1.W), pt b16 (.cells #[.int .i64 x15.1.Op, .int .i64 x15.1.W, .int .i64 x15.1.A, .int .i64 x15.1.B, .int .i64 x15.1.C, .int .u64 x15.1.Num, .string x15.1.Name] 45 (0, 0)), pt b20 (.cells #[.string (((mget x6.1 x15.1.Name).getD ⟨(ByteArray.mk #[]), 0, 0⟩).Name), .int .i64 (((mget x6.1 x15.1.Name).getD ⟨(ByteArray.mk #[]), 0, 0⟩).W), .int .u64 (((mget x6.1 x15.1.Name).getD ⟨(ByteArray.mk #[]), 0, 0⟩).Num)] 35 (0, 0))] rfl ?_
                refine WO.nil ?_
                refine WP.region ?_
                refine WO.val (PO.add rfl rfl) rfl ?_
                refine WO.val (PO.move rfl) rfl ?_
                refine WO.nil ?_
                exact ⟨c12_k, _, Nat.lt_succ_self _, ⟨(IntKind.i64.wrap (c12_0 + 1)), (mput c12_1 x14 (((mget x6.1 x15.1.Name).getD ⟨(ByteArray.mk #[]), 0, 0⟩).Num)), (mput c12_2 x14 x15.1.W), ⟨rfl, rfl, rfl, rfl, rfl, rfl, rfl, rfl, rfl, rfl, trivial⟩, rfl, hs⟩, fun _ s => s.pre⟩
            · replace hs := cond_f h21 hs
              refine WP.skip ?_
              refine WP.region ?_
              refine WO.val (PO.add rfl rfl) rfl ?_
              refine WO.val (PO.move rfl) rfl ?_
              refine WO.nil ?_
              exact ⟨c12_k, _, Nat.lt_succ_self _, ⟨(IntKind.i64.wrap (c12_0 + 1)), c12_1, (mput c12_2 x14 x15.1.W), ⟨rfl, rfl, rfl, rfl, rfl, rfl, rfl, rfl, rfl, rfl, trivial⟩, rfl, hs⟩, fun _ s => s.pre⟩
        · replace hs := cond_f h13 hs
          refine WP.exit (inX.hit ?_)
          refine WP.seq ?_
          refine WP.region ?_
          refine WO.val (PO.move rfl) rfl ?_
          refine WO.val (PO.lenL 1 rfl Tryz.runUnderlying24 rfl) rfl ?_
          obtain ⟨hc24, hs⟩ := check_elim hs
          refine WO.step (SO.of rfl (EO.makeL (c := uc) (a := 0) (fun _ => rfl) Tryz.typeInfo33 rfl rfl rfl Tryz.underlying40 rfl rfl rfl rfl rfl hc24)) rfl ?_
          rintro v25 _ rfl
          refine WO.toL [stAt p0 S, slc 3 1 v_1 s.length (fl ic s), slc 35 3 v_2 roots.length (fl Vl.cells roots), F, slc 33 1 (nils 1) ([] : List Int).length (fl uc ([] : List Int)), slc 3 1 v3 x2.1.length (fl ic x2.1), mapAt sv Vl.val b7 x6.1, mapAt iv uv b10 c12_1, mapAt iv iv b11 c12_2, slc 33 1 v25 (List.replicate (0 : Int).toNat (0 : Int)).length (fl uc (List.replicate (0 : Int).toNat (0 : Int)))] rfl ?_
          refine WO.val (PO.assign rfl) rfl ?_
          refine WO.nil ?_
          refine WP.seq ?_
          refine WP.seq ?_
          refine WP.region ?_
          refine WO.val (PO.move rfl) rfl ?_
          refine WO.val (PO.lenL 1 rfl Tryz.runUnderlying24 rfl) rfl ?_
          refine WO.val (PO.move rfl) rfl ?_
          refine WO.nil ?_
          refine WP.block ?_
          refine WP.loopG (fun c26_k f_ L_ => ∃ (c26_0 : Int) (c26_1 : Value) (c26_2 : List Int), Holds f_ [(6, (nils 1)), (7, .int .i64 0), (11, .map (some b10)), (19, c26_1), (111, v_1), (112, .int .i64 (s.length : Int)), (113, .int .i64 c26_0)] ∧ L_ = [stAt p0 S, slc 3 1 v_1 s.length (fl ic s), slc 35 3 v_2 roots.length (fl Vl.cells roots), F, slc 33 1 (nils 1) ([] : List Int).length (fl uc ([] : List Int)), slc 3 1 v3 x2.1.length (fl ic x2.1), mapAt sv Vl.val b7 x6.1, mapAt iv uv b10 c12_1, mapAt iv iv b11 c12_2, slc 33 1 c26_1 c26_2.length (fl uc c26_2)] ∧ s_Ev_Values_l1 s c12_1 c26_k c26_0 c26_2 = some r) k ⟨0, v25, (List.replicate (0 : Int).toNat (0 : Int)), ⟨rfl, rfl, rfl, rfl, rfl, rfl, rfl, trivial⟩, rfl, hs⟩ ?_
          rintro c26_k f_ L_ ⟨c26_0, c26_1, c26_2, hf_, rfl, hs⟩
          refine WP.keep [(6, (nils 1)), (7, .int .i64 0), (11, .map (some b10)), (19, c26_1), (111, v_1), (112, .int .i64 (s.length : Int)), (113, .int .i64 c26_0)] hf_ ?_
          cases c26_k with
          | zero => exact nomatch (show none = some r from hs)
          | succ c26_k =>
            rw [s_Ev_Values_l1.eq_2] at hs
            refine WP.seq ?_
            refine WP.region ?_
            refine WO.val (PO.lss rfl rfl) rfl ?_
            refine WO.nil ?_
            refine WP.seq ?_
            refine WP.cond rfl (fun h27 => ?_) (fun h27 => ?_)
            · replace hs := cond_t h27 hs
              refine WP.skip ?_
              refine WP.seq ?_
              refine WP.block ?_
              refine WP.seq ?_
              refine WP.region ?_
              obtain ⟨x28, hx28, hs⟩ := bind_elim hs
              refine WO.val (PO.idxL 1 rfl rfl Tryz.runUnderlying24 Tryz.sizeOf3 rfl hx28) rfl ?_
              refine WO.val (PO.loadL 1 rfl Tryz.isAgg3 rfl (fl_at (c := ic) (k := 1) (j := 0) (fun _ => rfl) hx28 rfl)) rfl ?_
              refine WO.val (PO.assign rfl) rfl ?_
              refine WO.nil ?_
              refine WP.region ?_
              refine WO.val (PO.move rfl) rfl ?_
              refine WO.val (PO.move rfl) rfl ?_
              refine WO.val (PO.move rfl) rfl ?_
              refine WO.val (PO.lookup1 (a := x28) (z := 0) 7 int_key rfl rfl Tryz.runUnderlying85 Tryz.zeroValue33 rfl) rfl ?_
              refine WO.step (SO.of rfl (EO.buildSlice1 rfl Tryz.runUnderlying40 Tryz.sizeOf33 Tryz.zeroValue33 rfl rfl rfl rfl)) rfl ?_
              rintro _ _ ⟨b29, rfl, rfl⟩
              refine WO.toL [stAt p0 S, slc 3 1 v_1 s.length (fl ic s), slc 35 3 v_2 roots.length (fl Vl.cells roots), F, slc 33 1 (nils 1) ([] : List Int).length (fl uc ([] : List Int)), slc 3 1 v3 x2.1.length (fl ic x2.1), mapAt sv Vl.val b7 x6.1, mapAt iv uv b10 c12_1, mapAt iv iv b11 c12_2, slc 33 1 c26_1 c26_2.length (fl uc c26_2), pt b29 (.cells #[.int .u64 ((mget c12_1 x28).getD 0)] 33 (0, 0))] rfl ?_
              obtain ⟨hc30, hs⟩ := check_elim hs
              refine WO.step (SO.of rfl (EO.appendL (c := uc) (a := ((mget c12_1 x28).getD 0)) 9 10 (fun _ => rfl) Tryz.typeInfo33 rfl rfl rfl rfl Tryz.runUnderlying40 Tryz.underlying40 rfl rfl rfl rfl rfl rfl rfl rfl hc30)) rfl ?_
              rintro v31 _ rfl
              refine WO.toL [stAt p0 S, slc 3 1 v_1 s.length (fl ic s), slc 35 3 v_2 roots.length (fl Vl.cells roots), F, slc 33 1 (nils 1) ([] : List Int).length (fl uc ([] : List Int)), slc 3 1 v3 x2.1.length (fl ic x2.1), mapAt sv Vl.val b7 x6.1, mapAt iv uv b10 c12_1, mapAt iv iv b11 c12_2, slc 33 1 v31 (c26_2 ++ [((mget c12_1 x28).getD 0)]).length (fl uc (c26_2 ++ [((mget c12_1 x28).getD 0)])), pt b29 (.cells #[.int .u64 ((mget c12_1 x28).getD 0)] 33 (0, 0))] rfl ?_
              refine WO.val (PO.assign rfl) rfl ?_
              refine WO.nil ?_
              refine WP.region ?_
              refine WO.val (PO.add rfl rfl) rfl ?_
              refine WO.val (PO.move rfl) rfl ?_
              refine WO.nil ?_
              exact ⟨c26_k, _, Nat.lt_succ_self _, ⟨(IntKind.i64.wrap (c26_0 + 1)), v31, (c26_2 ++ [((mget c12_1 x28).getD 0)]), ⟨rfl, rfl, rfl, rfl, rfl, rfl, rfl, trivial⟩, rfl, hs⟩, fun _ s => s.pre⟩
            · replace hs := cond_f h27 hs
              refine WP.exit (inX.hit ?_)
              refine WP.seq ?_
              refine WP.region ?_
              refine WO.val (PO.move rfl) rfl ?_
              refine WO.val (PO.assign rfl) rfl ?_
              refine WO.val (PO.assign rfl) rfl ?_
              refine WO.nil ?_
              refine WP.ret ?_
              obtain rfl := Option.some.inj hs
              exact ⟨_, c26_1, _, _, rfl, Res.two (RV.tmp rfl) (RV.tmp rfl), rfl, fun _ s => Sat.out [0, 1, 2, 9, 3] rfl s⟩
attribute [irreducible] s_Ev_Values

/- cadence/eval.Value -/
def s_Ev_Value (k : Nat) (S : St) (t : Int) (vals : List Vl) : Option (Int × Int) :=
  (s_Ev_Values k S ([t]) vals).bind fun x2 =>
  cond (x2.2 != 0)
    (some (0, x2.2))
    ((getI x2.1 0).bind fun x5 =>
    some (x5, 0))
theorem t_Ev_Value {k : Nat} {p0 : Nat} {v_2 : Value} {S : St} {t : Int} {vals : List Vl} {r : Int × Int}
    (hs : s_Ev_Value k S t vals = some r) :
    TriX Tryz.prog 25 [.pointer (some ⟨p0, 0, none⟩), .int .i64 t, v_2] [stAt p0 S, slc 35 3 v_2 vals.length (fl Vl.cells vals)] (.ok r) faultV (fun (a_ : Int × Int) (_ : Unit) => .tuple #[.int .u64 a_.1, .int .i64 a_.2]) (fun a_ _ => [stAt p0 S, slc 35 3 v_2 vals.length (fl Vl.cells vals)]) := by
  unfold s_Ev_Value at hs
  refine TriX.of Tryz.func25 rfl Tryz.ntmps25 Tryz.results25 rfl (fun w0 F => ?_)
  refine WP.seq ?_
  refine WP.region ?_
  refine WO.val (PO.assign rfl) rfl ?_
  refine WO.val (PO.assign rfl) rfl ?_
  refine WO.nil ?_
  refine WP.seq ?_
  refine WP.region ?_
  refine WO.val (PO.move rfl) rfl ?_
  refine WO.val (PO.move rfl) rfl ?_
  refine WO.step (SO.of rfl (EO.buildSlice1 rfl Tryz.runUnderlying24 Tryz.sizeOf3 Tryz.zeroValue3 rfl rfl rfl rfl)) rfl ?_
  rintro _ _ ⟨b1, rfl, rfl⟩
  refine WO.toL [stAt p0 S, slc 35 3 v_2 vals.length (fl Vl.cells vals), F, pt b1 (.cells #[.int .i64 t] 3 (0, 0))] rfl ?_
  refine WO.val (PO.move rfl) rfl ?_
  refine WO.heap [stAt p0 S, slc 35 3 v_2 vals.length (fl Vl.cells vals), F, slc 3 1 (.slice (some ⟨b1, 0, none⟩) 1 1) ([t]).length (fl ic ([t]))] (fun _ sw_ => Sat.one (c := ic) (k := 1) (a := t) 3 rfl rfl rfl sw_) ?_
  obtain ⟨x2, hx2, hs⟩ := bind_elim hs
  refine WO.step (SO.of rfl (EO.callX [0, 3, 1] Tryz.call17 rfl rfl (t_Ev_Values hx2) (fun _ => ⟨rfl, rfl, rfl, trivial⟩))) rfl ?_
  rintro _ _ ⟨v3, rfl, rfl⟩
  refine WO.toL [stAt p0 S, slc 35 3 v_2 vals.length (fl Vl.cells vals), F, slc 3 1 (.slice (some ⟨b1, 0, none⟩) 1 1) ([t]).length (fl ic ([t])), slc 33 1 v3 x2.1.length (fl uc x2.1)] rfl ?_
  refine WO.val (PO.move rfl) rfl ?_
  refine WO.val (PO.extract rfl rfl) rfl ?_
  refine WO.val (PO.extract rfl rfl) rfl ?_
  refine WO.val (PO.assign rfl) rfl ?_
  refine WO.val (PO.assign rfl) rfl ?_
  refine WO.nil ?_
  refine WP.seq ?_
  refine WP.seq ?_
  refine WP.region ?_
  refine WO.val (PO.move rfl) rfl ?_
  refine WO.val (PO.neq rfl rfl) rfl ?_
  refine WO.nil ?_
  refine WP.cond rfl (fun h4 => ?_) (fun h4 => ?_)
  · replace hs := cond_t h4 hs
    refine WP.seq ?_
    refine WP.region ?_
    refine WO.val (PO.move rfl) rfl ?_
    refine WO.val (PO.assign rfl) rfl ?_
    refine WO.val (PO.assign rfl) rfl ?_
    refine WO.nil ?_
    refine WP.ret ?_
    obtain rfl := Option.some.inj hs
    exact ⟨_, (), _, _, rfl, Res.two (RV.tmp rfl) (RV.tmp rfl), rfl, fun _ s => Sat.out [0, 1, 2] rfl s⟩
  · replace hs := cond_f h4 hs
    refine WP.skip ?_
    refine WP.seq ?_
    refine WP.region ?_
    refine WO.val (PO.move rfl) rfl ?_
    obtain ⟨x5, hx5, hs⟩ := bind_elim hs
    refine WO.val (PO.idxL 4 rfl rfl Tryz.runUnderlying40 Tryz.sizeOf33 rfl hx5) rfl ?_
    refine WO.val (PO.loadL 4 rfl Tryz.isAgg33 rfl (fl_at (c := uc) (k := 1) (j := 0) (fun _ => rfl) hx5 rfl)) rfl ?_
    refine WO.val (PO.assign rfl) rfl ?_
    refine WO.val (PO.assign rfl) rfl ?_
    refine WO.nil ?_
    refine WP.ret ?_
    obtain rfl := Option.some.inj hs
    exact ⟨_, (), _, _, rfl, Res.two (RV.tmp rfl) (RV.tmp rfl), rfl, fun _ s => Sat.out [0, 1, 2] rfl s⟩
attribute [irreducible] s_Ev_Value

/- cadence/eval.Size -/
def s_Ev_Size_l0 (S : St) (s : Int) (x2 : ((List Int) × Int)) : Nat → Int → (List (Int × Int)) → (List (Int × Int)) → Option (Int × Int × Int × Int)
  | 0, _, _, _ => none
  | c7_k + 1, c7_0, c7_1, c7_2 =>
    cond (decide (c7_0 < (x2.1.length : Int)))
      ((getI x2.1 c7_0).bind fun x9 =>
      (s_St_Node S x9).bind fun x10 =>
      cond (x10.1.A != 0)
        (lt (s_Ev_plus ((mget (mput c7_1 x9 1) x9).getD 0) ((mget (mput c7_1 x9 1) x10.1.A).getD 0)) fun x13 =>
        cond (x10.1.B != 0)
          (lt (s_Ev_plus ((mget (mput (mput c7_1 x9 1) x9 x13) x9).getD 0) ((mget (mput (mput c7_1 x9 1) x9 x13) x10.1.B).getD 0)) fun x15 =>
          cond (x10.1.C != 0)
            (lt (s_Ev_plus ((mget (mput (mput (mput c7_1 x9 1) x9 x13) x9 x15) x9).getD 0) ((mget (mput (mput (mput c7_1 x9 1) x9 x13) x9 x15) x10.1.C).getD 0)) fun x17 =>
            s_Ev_Size_l0 S s x2 c7_k (IntKind.i64.wrap (c7_0 + 1)) (mput (mput (mput (mput c7_1 x9 1) x9 x13) x9 x15) x9 x17) (mput (mput (mput (mput c7_2 x9 (maxI ((mget c7_2 x9).getD 0) ((mget c7_2 x10.1.A).getD 0))) x9 (maxI ((mget (mput c7_2 x9 (maxI ((mget c7_2 x9).getD 0) ((mget c7_2 x10.1.A).getD 0))) x9).getD 0) ((mget (mput c7_2 x9 (maxI ((mget c7_2 x9).getD 0) ((mget c7_2 x10.1.A).getD 0))) x10.1.B).getD 0))) x9 (maxI ((mget (mput (mput c7_2 x9 (maxI ((mget c7_2 x9).getD 0) ((mget c7_2 x10.1.A).getD 0))) x9 (maxI ((mget (mput c7_2 x9 (maxI ((mget c7_2 x9).getD 0) ((mget c7_2 x10.1.A).getD 0))) x9).getD 0) ((mget (mput c7_2 x9 (maxI ((mget c7_2 x9).getD 0) ((mget c7_2 x10.1.A).getD 0))) x10.1.B).getD 0))) x9).getD 0) ((mget (mput (mput c7_2 x9 (maxI ((mget c7_2 x9).getD 0) ((mget c7_2 x10.1.A).getD 0))) x9 (maxI ((mget (mput c7_2 x9 (maxI ((mget c7_2 x9).getD 0) ((mget c7_2 x10.1.A).getD 0))) x9).getD 0) ((mget (mput c7_2 x9 (maxI ((mget c7_2 x9).getD 0) ((mget c7_2 x10.1.A).getD 0))) x10.1.B).getD 0))) x10.1.C).getD 0))) x9 (IntKind.i64.wrap (((mget (mput (mput (mput c7_2 x9 (maxI ((mget c7_2 x9).getD 0) ((mget c7_2 x10.1.A).getD 0))) x9 (maxI ((mget (mput c7_2 x9 (maxI ((mget c7_2 x9).getD 0) ((mget c7_2 x10.1.A).getD 0))) x9).getD 0) ((mget (mput c7_2 x9 (maxI ((mget c7_2 x9).getD 0) ((mget c7_2 x10.1.A).getD 0))) x10.1.B).getD 0))) x9 (maxI ((mget (mput (mput c7_2 x9 (maxI ((mget c7_2 x9).getD 0) ((mget c7_2 x10.1.A).getD 0))) x9 (maxI ((mget (mput c7_2 x9 (maxI ((mget c7_2 x9).getD 0) ((mget c7_2 x10.1.A).getD 0))) x9).getD 0) ((mget (mput c7_2 x9 (maxI ((mget c7_2 x9).getD 0) ((mget c7_2 x10.1.A).getD 0))) x10.1.B).getD 0))) x9).getD 0) ((mget (mput (mput c7_2 x9 (maxI ((mget c7_2 x9).getD 0) ((mget c7_2 x10.1.A).getD 0))) x9 (maxI ((mget (mput c7_2 x9 (maxI ((mget c7_2 x9).getD 0) ((mget c7_2 x10.1.A).getD 0))) x9).getD 0) ((mget (mput c7_2 x9 (maxI ((mget c7_2 x9).getD 0) ((mget c7_2 x10.1.A).getD 0))) x10.1.B).getD 0))) x10.1.C).getD 0))) x9).getD 0) + 1))))
            (s_Ev_Size_l0 S s x2 c7_k (IntKind.i64.wrap (c7_0 + 1)) (mput (mput (mput c7_1 x9 1) x9 x13) x9 x15) (mput (mput (mput c7_2 x9 (maxI ((mget c7_2 x9).getD 0) ((mget c7_2 x10.1.A).getD 0))) x9 (maxI ((mget (mput c7_2 x9 (maxI ((mget c7_2 x9).getD 0) ((mget c7_2 x10.1.A).getD 0))) x9).getD 0) ((mget (mput c7_2 x9 (maxI ((mget c7_2 x9).getD 0) ((mget c7_2 x10.1.A).getD 0))) x10.1.B).getD 0))) x9 (IntKind.i64.wrap (((mget (mput (mput c7_2 x9 (maxI ((mget c7_2 x9).getD 0) ((mget c7_2 x10.1.A).getD 0))) x9 (maxI ((mget (mput c7_2 x9 (maxI ((mget c7_2 x9).getD 0) ((mget c7_2 x10.1.A).getD 0))) x9).getD 0) ((mget (mput c7_2 x9 (maxI ((mget c7_2 x9).getD 0) ((mget c7_2 x10.1.A).getD 0))) x10.1.B).getD 0))) x9).getD 0) + 1)))))
          (cond (x10.1.C != 0)
            (lt (s_Ev_plus ((mget (mput (mput c7_1 x9 1) x9 x13) x9).getD 0) ((mget (mput (mput c7_1 x9 1) x9 x13) x10.1.C).getD 0)) fun x19 =>
            s_Ev_Size_l0 S s x2 c7_k (IntKind.i64.wrap (c7_0 + 1)) (mput (mput (mput c7_1 x9 1) x9 x13) x9 x19) (mput (mput (mput c7_2 x9 (maxI ((mget c7_2 x9).getD 0) ((mget c7_2 x10.1.A).getD 0))) x9 (maxI ((mget (mput c7_2 x9 (maxI ((mget c7_2 x9).getD 0) ((mget c7_2 x10.1.A).getD 0))) x9).getD 0) ((mget (mput c7_2 x9 (maxI ((mget c7_2 x9).getD 0) ((mget c7_2 x10.1.A).getD 0))) x10.1.C).getD 0))) x9 (IntKind.i64.wrap (((mget (mput (mput c7_2 x9 (maxI ((mget c7_2 x9).getD 0) ((mget c7_2 x10.1.A).getD 0))) x9 (maxI ((mget (mput c7_2 x9 (maxI ((mget c7_2 x9).getD 0) ((mget c7_2 x10.1.A).getD 0))) x9).getD 0) ((mget (mput c7_2 x9 (maxI ((mget c7_2 x9).getD 0) ((mget c7_2 x10.1.A).getD 0))) x10.1.C).getD 0))) x9).getD 0) + 1))))
            (s_Ev_Size_l0 S s x2 c7_k (IntKind.i64.wrap (c7_0 + 1)) (mput (mput c7_1 x9 1) x9 x13) (mput (mput c7_2 x9 (maxI ((mget c7_2 x9).getD 0) ((mget c7_2 x10.1.A).getD 0))) x9 (IntKind.i64.wrap (((mget (mput c7_2 x9 (maxI ((mget c7_2 x9).getD 0) ((mget c7_2 x10.1.A).getD 0))) x9).getD 0) + 1))))))
        (cond (x10.1.B != 0)
          (lt (s_Ev_plus ((mget (mput c7_1 x9 1) x9).getD 0) ((mget (mput c7_1 x9 1) x10.1.B).getD 0)) fun x21 =>
          cond (x10.1.C != 0)
            (lt (s_Ev_plus ((mget (mput (mput c7_1 x9 1) x9 x21) x9).getD 0) ((mget (mput (mput c7_1 x9 1) x9 x21) x10.1.C).getD 0)) fun x23 =>
            s_Ev_Size_l0 S s x2 c7_k (IntKind.i64.wrap (c7_0 + 1)) (mput (mput (mput c7_1 x9 1) x9 x21) x9 x23) (mput (mput (mput c7_2 x9 (maxI ((mget c7_2 x9).getD 0) ((mget c7_2 x10.1.B).getD 0))) x9 (maxI ((mget (mput c7_2 x9 (maxI ((mget c7_2 x9).getD 0) ((mget c7_2 x10.1.B).getD 0))) x9).getD 0) ((mget (mput c7_2 x9 (maxI ((mget c7_2 x9).getD 0) ((mget c7_2 x10.1.B).getD 0))) x10.1.C).getD 0))) x9 (IntKind.i64.wrap (((mget (mput (mput c7_2 x9 (maxI ((mget c7_2 x9).getD 0) ((mget c7_2 x10.1.B).getD 0))) x9 (maxI ((mget (mput c7_2 x9 (maxI ((mget c7_2 x9).getD 0) ((mget c7_2 x10.1.B).getD 0))) x9).getD 0) ((mget (mput c7_2 x9 (maxI ((mget c7_2 x9).getD 0) ((mget c7_2 x10.1.B).getD 0))) x10.1.C).getD 0))) x9).getD 0) + 1))))
            (s_Ev_Size_l0 S s x2 c7_k (IntKind.i64.wrap (c7_0 + 1)) (mput (mput c7_1 x9 1) x9 x21) (mput (mput c7_2 x9 (maxI ((mget c7_2 x9).getD 0) ((mget c7_2 x10.1.B).getD 0))) x9 (IntKind.i64.wrap (((mget (mput c7_2 x9 (maxI ((mget c7_2 x9).getD 0) ((mget c7_2 x10.1.B).getD 0))) x9).getD 0) + 1)))))
          (cond (x10.1.C != 0)
            (lt (s_Ev_plus ((mget (mput c7_1 x9 1) x9).getD 0) ((mget (mput c7_1 x9 1) x10.1.C).getD 0)) fun x25 =>
            s_Ev_Size_l0 S s x2 c7_k (IntKind.i64.wrap (c7_0 + 1)) (mput (mput c7_1 x9 1) x9 x25) (mput (mput c7_2 x9 (maxI ((mget c7_2 x9).getD 0) ((mget c7_2 x10.1.C).getD 0))) x9 (IntKind.i64.wrap (((mget (mput c7_2 x9 (maxI ((mget c7_2 x9).getD 0) ((mget c7_2 x10.1.C).getD 0))) x9).getD 0) + 1))))
            (s_Ev_Size_l0 S s x2 c7_k (IntKind.i64.wrap (c7_0 + 1)) (mput c7_1 x9 1) (mput c7_2 x9 (IntKind.i64.wrap (((mget c7_2 x9).getD 0) + 1)))))))
      (some ((x2.1.length : Int), ((mget c7_1 s).getD 0), ((mget c7_2 s).getD 0), 0))
def s_Ev_Size (k : Nat) (S : St) (s : Int) : Option (Int × Int × Int × Int) :=
  (s_St_Order k S ([s])).bind fun x2 =>
  cond (x2.2 != 0)
    (some (0, 0, 0, x2.2))
    (s_Ev_Size_l0 S s x2 k 0 ([]) ([]))
theorem t_Ev_Size {k : Nat} {p0 : Nat} {S : St} {s : Int} {r : Int × Int × Int × Int}
    (hs : s_Ev_Size k S s = some r) :
    TriV Tryz.prog 24 [.pointer (some ⟨p0, 0, none⟩), .int .i64 s] [stAt p0 S] (.tuple #[.int .i64 r.1, .int .u64 r.2.1, .int .i64 r.2.2.1, .int .i64 r.2.2.2]) [stAt p0 S] := by
  unfold s_Ev_Size at hs
  refine TriL.of Tryz.func24 rfl Tryz.ntmps24 Tryz.results24 rfl (fun w0 F => ?_)
  refine WP.seq ?_
  refine WP.region ?_
  refine WO.val (PO.assign rfl) rfl ?_
  refine WO.val (PO.assign rfl) rfl ?_
  refine WO.val (PO.assign rfl) rfl ?_
  refine WO.val (PO.assign rfl) rfl ?_
  refine WO.nil ?_
  refine WP.seq ?_
  refine WP.seq ?_
  refine WP.region ?_
  refine WO.val (PO.move rfl) rfl ?_
  refine WO.val (PO.eqlPN rfl rfl Tryz.runUnderlying23) rfl ?_
  refine WO.nil ?_
  refine WP.condF rfl ?_
  refine WP.skip ?_
  refine WP.seq ?_
  refine WP.region ?_
  refine WO.val (PO.move rfl) rfl ?_
  refine WO.val (PO.move rfl) rfl ?_
  refine WO.step (SO.of rfl (EO.buildSlice1 rfl Tryz.runUnderlying24 Tryz.sizeOf3 Tryz.zeroValue3 rfl rfl rfl rfl)) rfl ?_
  rintro _ _ ⟨b1, rfl, rfl⟩
  refine WO.toL [stAt p0 S, F, pt b1 (.cells #[.int .i64 s] 3 (0, 0))] rfl ?_
  refine WO.heap [stAt p0 S, F, slc 3 1 (.slice (some ⟨b1, 0, none⟩) 1 1) ([s]).length (fl ic ([s]))] (fun _ sw_ => Sat.one (c := ic) (k := 1) (a := s) 2 rfl rfl rfl sw_) ?_
  obtain ⟨x2, hx2, hs⟩ := bind_elim hs
  refine WO.step (SO.of rfl (EO.callX [0, 2] Tryz.call26 rfl rfl (t_St_Order hx2) (fun _ => ⟨rfl, rfl, trivial⟩))) rfl ?_
  rintro _ _ ⟨v3, rfl, rfl⟩
  refine WO.toL [stAt p0 S, F, slc 3 1 (.slice (some ⟨b1, 0, none⟩) 1 1) ([s]).length (fl ic ([s])), slc 3 1 v3 x2.1.length (fl ic x2.1)] rfl ?_
  refine WO.val (PO.move rfl) rfl ?_
  refine WO.val (PO.extract rfl rfl) rfl ?_
  refine WO.val (PO.extract rfl rfl) rfl ?_
  refine WO.val (PO.assign rfl) rfl ?_
  refine WO.val (PO.assign rfl) rfl ?_
  refine WO.nil ?_
  refine WP.seq ?_
  refine WP.seq ?_
  refine WP.region ?_
  refine WO.val (PO.move rfl) rfl ?_
  refine WO.val (PO.neq rfl rfl) rfl ?_
  refine WO.nil ?_
  refine WP.cond rfl (fun h4 => ?_) (fun h4 => ?_)
  · replace hs := cond_t h4 hs
    refine WP.seq ?_
    refine WP.region ?_
    refine WO.val (PO.move rfl) rfl ?_
    refine WO.val (PO.assign rfl) rfl ?_
    refine WO.val (PO.assign rfl) rfl ?_
    refine WO.val (PO.assign rfl) rfl ?_
    refine WO.val (PO.assign rfl) rfl ?_
    refine WO.nil ?_
    refine WP.ret ?_
    obtain rfl := Option.some.inj hs
    exact ⟨_, _, _, Res.four (RV.tmp rfl) (RV.tmp rfl) (RV.tmp rfl) (RV.tmp rfl), ⟨rfl, rfl⟩, fun _ s => s⟩
  · replace hs := cond_f h4 hs
    refine WP.skip ?_
    refine WP.seq ?_
    refine WP.region ?_
    refine WO.val (PO.move rfl) rfl ?_
    refine WO.val (PO.lenL 3 rfl Tryz.runUnderlying24 rfl) rfl ?_
    refine WO.step (SO.of rfl (EO.makeMapN (kv := iv) (vv := uv) rfl Tryz.runUnderlying85)) rfl ?_
    rintro _ _ ⟨b5, rfl, rfl⟩
    refine WO.toL [stAt p0 S, F, slc 3 1 (.slice (some ⟨b1, 0, none⟩) 1 1) ([s]).length (fl ic ([s])), slc 3 1 v3 x2.1.length (fl ic x2.1), mapAt iv uv b5 ([])] rfl ?_
    refine WO.val (PO.assign rfl) rfl ?_
    refine WO.nil ?_
    refine WP.seq ?_
    refine WP.region ?_
    refine WO.val (PO.move rfl) rfl ?_
    refine WO.val (PO.lenL 3 rfl Tryz.runUnderlying24 rfl) rfl ?_
    refine WO.step (SO.of rfl (EO.makeMapN (kv := iv) (vv := iv) rfl Tryz.runUnderlying86)) rfl ?_
    rintro _ _ ⟨b6, rfl, rfl⟩
    refine WO.toL [stAt p0 S, F, slc 3 1 (.slice (some ⟨b1, 0, none⟩) 1 1) ([s]).length (fl ic ([s])), slc 3 1 v3 x2.1.length (fl ic x2.1), mapAt iv uv b5 ([]), mapAt iv iv b6 ([])] rfl ?_
    refine WO.val (PO.assign rfl) rfl ?_
    refine WO.nil ?_
    refine WP.seq ?_
    refine WP.seq ?_
    refine WP.region ?_
    refine WO.val (PO.move rfl) rfl ?_
    refine WO.val (PO.lenL 3 rfl Tryz.runUnderlying24 rfl) rfl ?_
    refine WO.val (PO.move rfl) rfl ?_
    refine WO.nil ?_
    refine WP.block ?_
    refine WP.loopG (fun c7_k f_ L_ => ∃ (c7_0 : Int) (c7_1 : List (Int × Int)) (c7_2 : List (Int × Int)), Holds f_ [(0, .pointer (some ⟨p0, 0, none⟩)), (1, .int .i64 s), (4, .int .i64 0), (5, .int .u64 0), (6, .int .i64 0), (7, .int .i64 0), (8, v3), (10, .map (some b5)), (11, .map (some b6)), (36, v3), (37, .int .i64 (x2.1.length : Int)), (38, .int .i64 c7_0)] ∧ L_ = [stAt p0 S, F, slc 3 1 (.slice (some ⟨b1, 0, none⟩) 1 1) ([s]).length (fl ic ([s])), slc 3 1 v3 x2.1.length (fl ic x2.1), mapAt iv uv b5 c7_1, mapAt iv iv b6 c7_2] ∧ s_Ev_Size_l0 S s x2 c7_k c7_0 c7_1 c7_2 = some r) k ⟨0, [], [], ⟨rfl, rfl, rfl, rfl, rfl, rfl, rfl, rfl, rfl, rfl, rfl, rfl, trivial⟩, rfl, hs⟩ ?_
    rintro c7_k f_ L_ ⟨c7_0, c7_1, c7_2, hf_, rfl, hs⟩
    refine WP.keep [(0, .pointer (some ⟨p0, 0, none⟩)), (1, .int .i64 s), (4, .int .i64 0), (5, .int .u64 0), (6, .int .i64 0), (7, .int .i64 0), (8, v3), (10, .map (some b5)), (11, .map (some b6)), (36, v3), (37, .int .i64 (x2.1.length : Int)), (38, .int .i64 c7_0)] hf_ ?_
    cases c7_k with
    | zero => exact nomatch (show none = some r from hs)
    | succ c7_k =>
      rw [s_Ev_Size_l0.eq_2] at hs
      refine WP.seq ?_
      refine WP.region ?_
      refine WO.val (PO.lss rfl rfl) rfl ?_
      refine WO.nil ?_
      refine WP.seq ?_
      refine WP.cond rfl (fun h8 => ?_) (fun h8 => ?_)
      · replace hs := cond_t h8 hs
        refine WP.skip ?_
        refine WP.seq ?_
        refine WP.block ?_
        refine WP.seq ?_
        refine WP.region ?_
        obtain ⟨x9, hx9, hs⟩ := bind_elim hs
        refine WO.val (PO.idxL 3 rfl rfl Tryz.runUnderlying24 Tryz.sizeOf3 rfl hx9) rfl ?_
        refine WO.val (PO.loadL 3 rfl Tryz.isAgg3 rfl (fl_at (c := ic) (k := 1) (j := 0) (fun _ => rfl) hx9 rfl)) rfl ?_
        refine WO.val (PO.assign rfl) rfl ?_
        refine WO.nil ?_
        refine WP.seq ?_
        refine WP.region ?_
        refine WO.val (PO.move rfl) rfl ?_
        refine WO.val (PO.move rfl) rfl ?_
        obtain ⟨x10, hx10, hs⟩ := bind_elim hs
        refine WO.vo (VO.call1 0 Tryz.call15 rfl rfl (t_St_Node hx10)) rfl ?_
        refine WO.val (PO.move rfl) rfl ?_
        refine WO.val (PO.extract rfl rfl) rfl ?_
        refine WO.val (PO.extract rfl rfl) rfl ?_
        refine WO.step (SO.of rfl (EO.alloc Tryz.zeroValue45)) rfl ?_
        rintro _ _ ⟨b11, rfl, rfl⟩
        refine WO.toL [stAt p0 S, F, slc 3 1 (.slice (some ⟨b1, 0, none⟩) 1 1) ([s]).length (fl ic ([s])), slc 3 1 v3 x2.1.length (fl ic x2.1), mapAt iv uv b5 c7_1, mapAt iv iv b6 c7_2, pt b11 (.cells #[.int .i64 0, .int .i64 0, .int .i64 0, .int .i64 0, .int .i64 0, .int .u64 0, .string (ByteArray.mk #[])] 45 (0, 0))] rfl ?_
        refine WO.step (SO.of rfl (EO.store 6 _ rfl rfl Tryz.sizeOf45 rfl rfl rfl rfl)) rfl ?_
        rintro _ _ rfl
        refine WO.toL [stAt p0 S, F, slc 3 1 (.slice (some ⟨b1, 0, none⟩) 1 1) ([s]).length (fl ic ([s])), slc 3 1 v3 x2.1.length (fl ic x2.1), mapAt iv uv b5 c7_1, mapAt iv iv b6 c7_2, pt b11 (.cells #[.int .i64 x10.1.Op, .int .i64 x10.1.W, .int .i64 x10.1.A, .int .i64 x10.1.B, .int .i64 x10.1.C, .int .u64 x10.1.Num, .string x10.1.Name] 45 (0, 0))] rfl ?_
        refine WO.val (PO.assign rfl) rfl ?_
        refine WO.nil ?_
        refine WP.seq ?_
        refine WP.region ?_
        refine WO.val (PO.move rfl) rfl ?_
        refine WO.val (PO.move rfl) rfl ?_
        refine WO.step (SO.of rfl (EO.mapUpdate (a := x9) (b := 1) 4 _ int_key rfl rfl rfl Tryz.runUnderlying85 rfl rfl)) rfl ?_
        rintro _ _ rfl
        refine WO.toL [stAt p0 S, F, slc 3 1 (.slice (some ⟨b1, 0, none⟩) 1 1) ([s]).length (fl ic ([s])), slc 3 1 v3 x2.1.length (fl ic x2.1), mapAt iv uv b5 (mput c7_1 x9 1), mapAt iv iv b6 c7_2, pt b11 (.cells #[.int .i64 x10.1.Op, .int .i64 x10.1.W, .int .i64 x10.1.A, .int .i64 x10.1.B, .int .i64 x10.1.C, .int .u64 x10.1.Num, .string x10.1.Name] 45 (0, 0))] rfl ?_
        refine WO.nil ?_
        refine WP.seq ?_
        refine WP.seq ?_
        refine WP.region ?_
        refine WO.val (PO.fieldAddr rfl Tryz.runUnderlying45 rfl Tryz.sizeOf3 rfl) rfl ?_
        refine WO.val (PO.load 6 rfl Tryz.isAgg3 rfl rfl) rfl ?_
        refine WO.val (PO.fieldAddr rfl Tryz.runUnderlying45 rfl Tryz.sizeOf3 rfl) rfl ?_
        refine WO.val (PO.load 6 rfl Tryz.isAgg3 rfl rfl) rfl ?_
        refine WO.val (PO.fieldAddr rfl Tryz.runUnderlying45 rfl Tryz.sizeOf3 rfl) rfl ?_
        refine WO.val (PO.load 6 rfl Tryz.isAgg3 rfl rfl) rfl ?_
        refine WO.val (PO.build (v := .agg #[.int .i64 x10.1.A, .int .i64 x10.1.B, .int .i64 x10.1.C]) rfl (fun w => by simp [Instr.build, Instr.fill, Value.cells, addr_add', Tryz.zeroValue100, Tryz.runUnderlying100, Tryz.sizeOf3])) rfl ?_
        refine WO.val (PO.move rfl) rfl ?_
        refine WO.nil ?_
        refine WP.block ?_
        refine WP.rounds 4 ?_
        refine WPR.succ ?_
        refine WP.seq ?_
        refine WP.region ?_
        refine WO.val (PO.lss rfl rfl) rfl ?_
        refine WO.nil ?_
        refine WP.seq ?_
        refine WP.condT rfl ?_
        refine WP.skip ?_
        refine WP.seq ?_
        refine WP.block ?_
        refine WP.seq ?_
        refine WP.region ?_
        refine WO.val (PO.idxArr (i := 0) rfl rfl Tryz.runUnderlying100 Tryz.sizeOf3 Tryz.isAgg3 rfl rfl rfl) rfl ?_
        refine WO.val (PO.assign rfl) rfl ?_
        refine WO.nil ?_
        refine WP.seq ?_
        refine WP.region ?_
        refine WO.val (PO.move rfl) rfl ?_
        refine WO.val (PO.neq rfl rfl) rfl ?_
        refine WO.nil ?_
        refine WP.cond rfl (fun h12 => ?_) (fun h12 => ?_)
        · replace hs := cond_t h12 hs
          refine WP.seq ?_
          refine WP.region ?_
          refine WO.val (PO.move rfl) rfl ?_
          refine WO.val (PO.move rfl) rfl ?_
          refine WO.val (PO.move rfl) rfl ?_
          refine WO.val (PO.move rfl) rfl ?_
          refine WO.val (PO.lookup1 (a := x9) (z := 0) 4 int_key rfl rfl Tryz.runUnderlying85 Tryz.zeroValue33 rfl) rfl ?_
          refine WO.val (PO.move rfl) rfl ?_
          refine WO.val (PO.move rfl) rfl ?_
          refine WO.val (PO.lookup1 (a := x10.1.A) (z := 0) 4 int_key rfl rfl Tryz.runUnderlying85 Tryz.zeroValue33 rfl) rfl ?_
          obtain ⟨x13, hx13, hs⟩ := lt_elim hs
          refine WO.vo (VO.call0 Tryz.call53 rfl (t_Ev_plus hx13)) rfl ?_
          refine WO.step (SO.of rfl (EO.mapUpdate (a := x9) (b := x13) 4 _ int_key rfl rfl rfl Tryz.runUnderlying85 rfl rfl)) rfl ?_
          rintro _ _ rfl
          refine WO.toL [stAt p0 S, F, slc 3 1 (.slice (some ⟨b1, 0, none⟩) 1 1) ([s]).length (fl ic ([s])), slc 3 1 v3 x2.1.length (fl ic x2.1), mapAt iv uv b5 (mput (mput c7_1 x9 1) x9 x13), mapAt iv iv b6 c7_2, pt b11 (.cells #[.int .i64 x10.1.Op, .int .i64 x10.1.W, .int .i64 x10.1.A, .int .i64 x10.1.B, .int .i64 x10.1.C, .int .u64 x10.1.Num, .string x10.1.Name] 45 (0, 0))] rfl ?_
          refine WO.nil ?_
          refine WP.region ?_
          refine WO.val (PO.move rfl) rfl ?_
          refine WO.val (PO.move rfl) rfl ?_
          refine WO.val (PO.move rfl) rfl ?_
          refine WO.val (PO.move rfl) rfl ?_
          refine WO.val (PO.lookup1 (a := x9) (z := 0) 5 int_key rfl rfl Tryz.runUnderlying86 Tryz.zeroValue3 rfl) rfl ?_
          refine WO.val (PO.move rfl) rfl ?_
          refine WO.val (PO.move rfl) rfl ?_
          refine WO.val (PO.lookup1 (a := x10.1.A) (z := 0) 5 int_key rfl rfl Tryz.runUnderlying86 Tryz.zeroValue3 rfl) rfl ?_
          refine WO.val (PO.max2 rfl rfl) rfl ?_
          refine WO.step (SO.of rfl (EO.mapUpdate (a := x9) (b := (maxI ((mget c7_2 x9).getD 0) ((mget c7_2 x10.1.A).getD 0))) 5 _ int_key rfl rfl rfl Tryz.runUnderlying86 rfl rfl)) rfl ?_
          rintro _ _ rfl
          refine WO.toL [stAt p0 S, F, slc 3 1 (.slice (some ⟨b1, 0, none⟩) 1 1) ([s]).length (fl ic ([s])), slc 3 1 v3 x2.1.length (fl ic x2.1), mapAt iv uv b5 (mput (mput c7_1 x9 1) x9 x13), mapAt iv iv b6 (mput c7_2 x9 (maxI ((mget c7_2 x9).getD 0) ((mget c7_2 x10.1.A).getD 0))), pt b11 (.cells #[.int .i64 x10.1.Op, .int .i64 x10.1.W, .int .i64 x10.1.A, .int .i64 x10.1.B, .int .i64 x10.1.C, .int .u64 x10.1.Num, .string x10.1.Name] 45 (0, 0))] rfl ?_
          refine WO.nil ?_
          refine WP.region ?_
          refine WO.val (PO.addK (c := 1) rfl rfl (by decide)) rfl ?_
          refine WO.val (PO.move rfl) rfl ?_
          refine WO.nil ?_
          refine WPR.succ ?_
          refine WP.seq ?_
          refine WP.region ?_
          refine WO.val (PO.lss rfl rfl) rfl ?_
          refine WO.nil ?_
          refine WP.seq ?_
          refine WP.condT rfl ?_
          refine WP.skip ?_
          refine WP.seq ?_
          refine WP.block ?_
          refine WP.seq ?_
          refine WP.region ?_
          refine WO.val (PO.idxArr (i := 1) rfl rfl Tryz.runUnderlying100 Tryz.sizeOf3 Tryz.isAgg3 rfl rfl rfl) rfl ?_
          refine WO.val (PO.assign rfl) rfl ?_
          refine WO.nil ?_
          refine WP.seq ?_
          refine WP.region ?_
          refine WO.val (PO.move rfl) rfl ?_
          refine WO.val (PO.neq rfl rfl) rfl ?_
          refine WO.nil ?_
          refine WP.cond rfl (fun h14 => ?_) (fun h14 => ?_)
          · replace hs := cond_t h14 hs
            refine WP.seq ?_
            refine WP.region ?_
            refine WO.val (PO.move rfl) rfl ?_
            refine WO.val (PO.move rfl) rfl ?_
            refine WO.val (PO.move rfl) rfl ?_
            refine WO.val (PO.move rfl) rfl ?_
            refine WO.val (PO.lookup1 (a := x9) (z := 0) 4 int_key rfl rfl Tryz.runUnderlying85 Tryz.zeroValue33 rfl) rfl ?_
            refine WO.val (PO.move rfl) rfl ?_
            refine WO.val (PO.move rfl) rfl ?_
            refine WO.val (PO.lookup1 (a := x10.1.B) (z := 0) 4 int_key rfl rfl Tryz.runUnderlying85 Tryz.zeroValue33 rfl) rfl ?_
            obtain ⟨x15, hx15, hs⟩ := lt_elim hs
            refine WO.vo (VO.call0 Tryz.call53 rfl (t_Ev_plus hx15)) rfl ?_
            refine WO.step (SO.of rfl (EO.mapUpdate (a := x9) (b := x15) 4 _ int_key rfl rfl rfl Tryz.runUnderlying85 rfl rfl)) rfl ?_
            rintro _ _ rfl
            refine WO.toL [stAt p0 S, F, slc 3 1 (.slice (some ⟨b1, 0, none⟩) 1 1) ([s]).length (fl ic ([s])), slc 3 1 v3 x2.1.length (fl ic x2.1), mapAt iv uv b5 (mput (mput (mput c7_1 x9 1) x9 x13) x9 x15), mapAt iv iv b6 (mput c7_2 x9 (maxI ((mget c7_2 x9).getD 0) ((mget c7_2 x10.1.A).getD 0))), pt b11 (.cells #[.int .i64 x10.1.Op, .int .i64 x10.1.W, .int .i64 x10.1.A, .int .i64 x10.1.B, .int .i64 x10.1.C, .int .u64 x10.1.Num, .string x10.1.Name] 45 (0, 0))] rfl ?_
            refine WO.nil ?_
            refine WP.region ?_
            refine WO.val (PO.move rfl) rfl ?_
            refine WO.val (PO.move rfl) rfl ?_
            refine WO.val (PO.move rfl) rfl ?_
            refine WO.val (PO.move rfl) rfl ?_
            refine WO.val (PO.lookup1 (a := x9) (z := 0) 5 int_key rfl rfl Tryz.runUnderlying86 Tryz.zeroValue3 rfl) rfl ?_
            refine WO.val (PO.move rfl) rfl ?_
            refine WO.val (PO.move rfl) rfl ?_
            refine WO.val (PO.lookup1 (a := x10.1.B) (z := 0) 5 int_key rfl rfl Tryz.runUnderlying86 Tryz.zeroValue3 rfl) rfl ?_
            refine WO.val (PO.max2 rfl rfl) rfl ?_
            refine WO.step (SO.of rfl (EO.mapUpdate (a := x9) (b := (maxI ((mget (mput c7_2 x9 (maxI ((mget c7_2 x9).getD 0) ((mget c7_2 x10.1.A).getD 0))) x9).getD 0) ((mget (mput c7_2 x9 (maxI ((mget c7_2 x9).getD 0) ((mget c7_2 x10.1.A).getD 0))) x10.1.B).getD 0))) 5 _ int_key rfl rfl rfl Tryz.runUnderlying86 rfl rfl)) rfl ?_
            rintro _ _ rfl
            refine WO.toL [stAt p0 S, F, slc 3 1 (.slice (some ⟨b1, 0, none⟩) 1 1) ([s]).length (fl ic ([s])), slc 3 1 v3 x2.1.length (fl ic x2.1), mapAt iv uv b5 (mput (mput (mput c7_1 x9 1) x9 x13) x9 x15), mapAt iv iv b6 (mput (mput c7_2 x9 (maxI ((mget c7_2 x9).getD 0) ((mget c7_2 x10.1.A).getD 0))) x9 (maxI ((mget (mput c7_2 x9 (maxI ((mget c7_2 x9).getD 0) ((mget c7_2 x10.1.A).getD 0))) x9).getD 0) ((mget (mput c7_2 x9 (maxI ((mget c7_2 x9).getD 0) ((mget c7_2 x10.1.A).getD 0))) x10.1.B).getD 0))), pt b11 (.cells #[.int .i64 x10.1.Op, .int .i64 x10.1.W, .int .i64 x10.1.A, .int .i64 x10.1.B, .int .i64 x10.1.C, .int .u64 x10.1.Num, .string x10.1.Name] 45 (0, 0))] rfl ?_
            refine WO.nil ?_
            refine WP.region ?_
            refine WO.val (PO.addK (c := 2) rfl rfl (by decide)) rfl ?_
            refine WO.val (PO.move rfl) rfl ?_
            refine WO.nil ?_
            refine WPR.succ ?_
            refine WP.seq ?_
            refine WP.region ?_
            refine WO.val (PO.lss rfl rfl) rfl ?_
            refine WO.nil ?_
            refine WP.seq ?_
            refine WP.condT rfl ?_
            refine WP.skip ?_
            refine WP.seq ?_
            refine WP.block ?_
            refine WP.seq ?_
            refine WP.region ?_
            refine WO.val (PO.idxArr (i := 2) rfl rfl Tryz.runUnderlying100 Tryz.sizeOf3 Tryz.isAgg3 rfl rfl rfl) rfl ?_
            refine WO.val (PO.assign rfl) rfl ?_
            refine WO.nil ?_
            refine WP.seq ?_
            refine WP.region ?_
            refine WO.val (PO.move rfl) rfl ?_
            refine WO.val (PO.neq rfl rfl) rfl ?_
            refine WO.nil ?_
            refine WP.cond rfl (fun h16 => ?_) (fun h16 => ?_)
            · replace hs := cond_t h16 hs
              refine WP.seq ?_
              refine WP.region ?_
              refine WO.val (PO.move rfl) rfl ?_
              refine WO.val (PO.move rfl) rfl ?_
              refine WO.val (PO.move rfl) rfl ?_
              refine WO.val (PO.move rfl) rfl ?_
              refine WO.val (PO.lookup1 (a := x9) (z := 0) 4 int_key rfl rfl Tryz.runUnderlying85 Tryz.zeroValue33 rfl) rfl ?_
              refine WO.val (PO.move rfl) rfl ?_
              refine WO.val (PO.move rfl) rfl ?_
              refine WO.val (PO.lookup1 (a := x10.1.C) (z := 0) 4 int_key rfl rfl Tryz.runUnderlying85 Tryz.zeroValue33 rfl) rfl ?_
              obtain ⟨x17, hx17, hs⟩ := lt_elim hs
              refine WO.vo (VO.call0 Tryz.call53 rfl (t_Ev_plus hx17)) rfl ?_
              refine WO.step (SO.of rfl (EO.mapUpdate (a := x9) (b := x17) 4 _ int_key rfl rfl rfl Tryz.runUnderlying85 rfl rfl)) rfl ?_
              rintro _ _ rfl
              refine WO.toL [stAt p0 S, F, slc 3 1 (.slice (some ⟨b1, 0, none⟩) 1 1) ([s]).length (fl ic ([s])), slc 3 1 v3 x2.1.length (fl ic x2.1), mapAt iv uv b5 (mput (mput (mput (mput c7_1 x9 1) x9 x13) x9 x15) x9 x17), mapAt iv iv b6 (mput (mput c7_2 x9 (maxI ((mget c7_2 x9).getD 0) ((mget c7_2 x10.1.A).getD 0))) x9 (maxI ((mget (mput c7_2 x9 (maxI ((mget c7_2 x9).getD 0) ((mget c7_2 x10.1.A).getD 0))) x9).getD 0) ((mget (mput c7_2 x9 (maxI ((mget c7_2 x9).getD 0) ((mget c7_2 x10.1.A).getD 0))) x10.1.B).getD 0))), pt b11 (.cells #[.int .i64 x10.1.Op, .int .i64 x10.1.W, .int .i64 x10.1.A, .int .i64 x10.1.B, .int .i64 x10.1.C, .int .u64 x10.1.Num, .string x10.1.Name] 45 (0, 0))] rfl ?_
              refine WO.nil ?_
              refine WP.region ?_
              refine WO.val (PO.move rfl) rfl ?_
              refine WO.val (PO.move rfl) rfl ?_
              refine WO.val (PO.move rfl) rfl ?_
              refine WO.val (PO.move rfl) rfl ?_
              refine WO.val (PO.lookup1 (a := x9) (z := 0) 5 int_key rfl rfl Tryz.runUnderlying86 Tryz.zeroValue3 rfl) rfl ?_
              refine WO.val (PO.move rfl) rfl ?_
              refine WO.val (PO.move rfl) rfl ?_
              refine WO.val (PO.lookup1 (a := x10.1.C) (z := 0) 5 int_key rfl rfl Tryz.runUnderlying86 Tryz.zeroValue3 rfl) rfl ?_
              refine WO.val (PO.max2 rfl rfl) rfl ?_
              refine WO.step (SO.of rfl (EO.mapUpdate (a := x9) (b := (maxI ((mget (mput (mput c7_2 x9 (maxI ((mget c7_2 x9).getD 0) ((mget c7_2 x10.1.A).getD 0))) x9 (maxI ((mget (mput c7_2 x9 (maxI ((mget c7_2 x9).getD 0) ((mget c7_2 x10.1.A).getD 0))) x9).getD 0) ((mget (mput c7_2 x9 (maxI ((mget c7_2 x9).getD 0) ((mget c7_2 x10.1.A).getD 0))) x10.1.B).getD 0))) x9).getD 0) ((mget (mput (mput c7_2 x9 (maxI ((mget c7_2 x9).getD 0) ((mget c7_2 x10.1.A).getD 0))) x9 (maxI ((mget (mput c7_2 x9 (maxI ((mget c7_2 x9).getD 0) ((mget c7_2 x10.1.A).getD 0))) x9).getD 0) ((mget (mput c7_2 x9 (maxI ((mget c7_2 x9).getD 0) ((mget c7_2 x10.1.A).getD 0))) x10.1.B).getD 0))) x10.1.C).getD 0))) 5 _ int_key rfl rfl rfl Tryz.runUnderlying86 rfl rfl)) rfl ?_
              rintro _ _ rfl
              refine WO.toL [stAt p0 S, F, slc 3 1 (.slice (some ⟨b1, 0, none⟩) 1 1) ([s]).length (fl ic ([s])), slc 3 1 v3 x2.1.length (fl ic x2.1), mapAt iv uv b5 (mput (mput (mput (mput c7_1 x9 1) x9 x13) x9 x15) x9 x17), mapAt iv iv b6 (mput (mput (mput c7_2 x9 (maxI ((mget c7_2 x9).getD 0) ((mget c7_2 x10.1.A).getD 0))) x9 (maxI ((mget (mput c7_2 x9 (maxI ((mget c7_2 x9).getD 0) ((mget c7_2 x10.1.A).getD 0))) x9).getD 0) ((mget (mput c7_2 x9 (maxI ((mget c7_2 x9).getD 0) ((mget c7_2 x10.1.A).getD 0))) x10.1.B).getD 0))) x9 (maxI ((mget (mput (mput c7_2 x9 (maxI ((mget c7_2 x9).getD 0) ((mget c7_2 x10.1.A).getD 0))) x9 (maxI ((mget (mput c7_2 x9 (maxI ((mget c7_2 x9).getD 0) ((mget c7_2 x10.1.A).getD 0))) x9).getD 0) ((mget (mput c7_2 x9 (maxI ((mget c7_2 x9).getD 0) ((mget c7_2 x10.1.A).getD 0))) x10.1.B).getD 0))) x9).getD 0) ((mget (mput (mput c7_2 x9 (maxI ((mget c7_2 x9).getD 0) ((mget c7_2 x10.1.A).getD 0))) x9 (maxI ((mget (mput c7_2 x9 (maxI ((mget c7_2 x9).getD 0) ((mget c7_2 x10.1.A).getD 0))) x9).getD 0) ((mget (mput c7_2 x9 (maxI ((mget c7_2 x9).getD 0) ((mget c7_2 x10.1.A).getD 0))) x10.1.B).getD 0))) x10.1.C).getD 0))), pt b11 (.cells #[.int .i64 x10.1.Op, .int .i64 x10.1.W, .int .i64 x10.1.A, .int .i64 x10.1.B, .int .i64 x10.1.C, .int .u64 x10.1.Num, .string x10.1.Name] 45 (0, 0))] rfl ?_
              refine WO.nil ?_
              refine WP.region ?_
              refine WO.val (PO.addK (c := 3) rfl rfl (by decide)) rfl ?_
              refine WO.val (PO.move rfl) rfl ?_
              refine WO.nil ?_
              refine WPR.succ ?_
              refine WP.seq ?_
              refine WP.region ?_
              refine WO.val (PO.lss rfl rfl) rfl ?_
              refine WO.nil ?_
              refine WP.seq ?_
              refine WP.condF rfl ?_
              refine WP.exit (inX.hit ?_)
              refine WP.region ?_
              refine WO.val (PO.move rfl) rfl ?_
              refine WO.val (PO.move rfl) rfl ?_
              refine WO.val (PO.lookup1 (a := x9) (z := 0) 5 int_key rfl rfl Tryz.runUnderlying86 Tryz.zeroValue3 rfl) rfl ?_
              refine WO.val (PO.add rfl rfl) rfl ?_
              refine WO.step (SO.of rfl (EO.mapUpdate (a := x9) (b := (IntKind.i64.wrap (((mget (mput (mput (mput c7_2 x9 (maxI ((mget c7_2 x9).getD 0) ((mget c7_2 x10.1.A).getD 0))) x9 (maxI ((mget (mput c7_2 x9 (maxI ((mget c7_2 x9).getD 0) ((mget c7_2 x10.1.A).getD 0))) x9).getD 0) ((mget (mput c7_2 x9 (maxI ((mget c7_2 x9).getD 0) ((mget c7_2 x10.1.A).getD 0))) x10.1.B).getD 0))) x9 (maxI ((mget (mput (mput c7_2 x9 (maxI ((mget c7_2 x9).getD 0) ((mget c7_2 x10.1.A).getD 0))) x9 (maxI ((mget (mput c7_2 x9 (maxI ((mget c7_2 x9).getD 0) ((mget c7_2 x10.1.A).getD 0))) x9).getD 0) ((mget (mput c7_2 x9 (maxI ((mget c7_2 x9).getD 0) ((mget c7_2 x10.1.A).getD 0))) x10.1.B).getD 0))) x9).getD 0) ((mget (mput (mput c7_2 x9 (maxI ((mget c7_2 x9).getD 0) ((mget c7_2 x10.1.A).getD 0))) x9 (maxI ((mget (mput c7_2 x9 (maxI ((mget c7_2 x9).getD 0) ((mget c7_2 x10.1.A).getD 0))) x9).getD 0) ((mget (mput c7_2 x9 (maxI ((mget c7_2 x9).getD 0) ((mget c7_2 x10.1.A).getD 0))) x10.1.B).getD 0))) x10.1.C).getD 0))) x9).getD 0) + 1))) 5 _ int_key rfl rfl rfl Tryz.runUnderlying86 rfl rfl)) rfl ?_
              rintro _ _ rfl
              refine WO.toL [stAt p0 S, F, slc 3 1 (.slice (some ⟨b1, 0, none⟩) 1 1) ([s]).length (fl ic ([s])), slc 3 1 v3 x2.1.length (fl ic x2.1), mapAt iv uv b5 (mput (mput (mput (mput c7_1 x9 1) x9 x13) x9 x15) x9 x17), mapAt iv iv b6 (mput (mput (mput (mput c7_2 x9 (maxI ((mget c7_2 x9).getD 0) ((mget c7_2 x10.1.A).getD 0))) x9 (maxI ((mget (mput c7_2 x9 (maxI ((mget c7_2 x9).getD 0) ((mget c7_2 x10.1.A).getD 0))) x9).getD 0) ((mget (mput c7_2 x9 (maxI ((mget c7_2 x9).getD 0) ((mget c7_2 x10.1.A).getD 0))) x10.1.B).getD 0))) x9 (maxI ((mget (mput (mput c7_2 x9 (maxI ((mget c7_2 x9).getD 0) ((mget c7_2 x10.1.A).getD 0))) x9 (maxI ((mget (mput c7_2 x9 (maxI ((mget c7_2 x9).getD 0) ((mget c7_2 x10.1.A).getD 0))) x9).getD 0) ((mget (mput c7_2 x9 (maxI ((mget c7_2 x9).getD 0) ((mget c7_2 x10.1.A).getD 0))) x10.1.B).getD 0))) x9).getD 0) ((mget (mput (mput c7_2 x9 (maxI ((mget c7_2 x9).getD 0) ((mget c7_2 x10.1.A).getD 0))) x9 (maxI ((mget (mput c7_2 x9 (maxI ((mget c7_2 x9).getD 0) ((mget c7_2 x10.1.A).getD 0))) x9).getD 0) ((mget (mput c7_2 x9 (maxI ((mget c7_2 x9).getD 0) ((mget c7_2 x10.1.A).getD 0))) x10.1.B).getD 0))) x10.1.C).getD 0))) x9 (IntKind.i64.wrap (((mget (mput (mput (mput c7_2 x9 (maxI ((mget c7_2 x9).getD 0) ((mget c7_2 x10.1.A).getD 0))) x9 (maxI ((mget (mput c7_2 x9 (maxI ((mget c7_2 x9).getD 0) ((mget c7_2 x10.1.A).getD 0))) x9).getD 0) ((mget (mput c7_2 x9 (maxI ((mget c7_2 x9).getD 0) ((mget c7_2 x10.1.A).getD 0))) x10.1.B).getD 0))) x9 (maxI ((mget (mput (mput c7_2 x9 (maxI ((mget c7_2 x9).getD 0) ((mget c7_2 x10.1.A).getD 0))) x9 (maxI ((mget (mput c7_2 x9 (maxI ((mget c7_2 x9).getD 0) ((mget c7_2 x10.1.A).getD 0))) x9).getD 0) ((mget (mput c7_2 x9 (maxI ((mget c7_2 x9).getD 0) ((mget c7_2 x10.1.A).getD 0))) x10.1.B).getD 0))) x9).getD 0) ((mget (mput (mput c7_2 x9 (maxI ((mget c7_2 x9).getD 0) ((mget c7_2 x10.1.A).getD 0))) x9 (maxI ((mget (mput c7_2 x9 (maxI ((mget c7_2 x9).getD 0) ((mget c7_2 x10.1.A).getD 0))) x9).getD 0) ((mget (mput c7_2 x9 (maxI ((mget c7_2 x9).getD 0) ((mget c7_2 x10.1.A).getD 0))) x10.1.B).getD 0))) x10.1.C).getD 0))) x9).getD 0) + 1))), pt b11 (.cells #[.int .i64 x10.1.Op, .int .i64 x10.1.W, .int .i64 x10.1.A, .int .i64 x10.1.B, .int .i64 x10.1.C, .int .u64 x10.1.Num, .string x10.1.Name] 45 (0, 0))] rfl ?_
              refine WO.nil ?_
              refine WP.region ?_
              refine WO.val (PO.add rfl rfl) rfl ?_
              refine WO.val (PO.move rfl) rfl ?_
              refine WO.nil ?_
              exact ⟨c7_k, _, Nat.lt_succ_self _, ⟨(IntKind.i64.wrap (c7_0 + 1)), (mput (mput (mput (mput c7_1 x9 1) x9 x13) x9 x15) x9 x17), (mput (mput (mput (mput c7_2 x9 (maxI ((mget c7_2 x9).getD 0) ((mget c7_2 x10.1.A).getD 0))) x9 (maxI ((mget (mput c7_2 x9 (maxI ((mget c7_2 x9).getD 0) ((mget c7_2 x10.1.A).getD 0))) x9).getD 0) ((mget (mput c7_2 x9 (maxI ((mget c7_2 x9).getD 0) ((mget c7_2 x10.1.A).getD 0))) x10.1.B).getD 0))) x9 (maxI ((mget (mput (mput c7_2 x9 (maxI ((mget c7_2 x9).getD 0) ((mget c7_2 x10.1.A).getD 0))) x9 (maxI ((mget (mput c7_2 x9 (maxI ((mget c7_2 x9).getD 0) ((mget c7_2 x10.1.A).getD 0))) x9).getD 0) ((mget (mput c7_2 x9 (maxI ((mget c7_2 x9).getD 0) ((mget c7_2 x10.1.A).getD 0))) x10.1.B).getD 0))) x9).getD 0) ((mget (mput (mput c7_2 x9 (maxI ((mget c7_2 x9).getD 0) ((mget c7_2 x10.1.A).getD 0))) x9 (maxI ((mget (mput c7_2 x9 (maxI ((mget c7_2 x9).getD 0) ((mget c7_2 x10.1.A).getD 0))) x9).getD 0) ((mget (mput c7_2 x9 (maxI ((mget c7_2 x9).getD 0) ((mget c7_2 x10.1.A).getD 0))) x10.1.B).getD 0))) x10.1.C).getD 0))) x9 (IntKind.i64.wrap (((mget (mput (mput (mput c7_2 x9 (maxI ((mget c7_2 x9).getD 0) ((mget c7_2 x10.1.A).getD 0))) x9 (maxI ((mget (mput c7_2 x9 (maxI ((mget c7_2 x9).getD 0) ((mget c7_2 x10.1.A).getD 0))) x9).getD 0) ((mget (mput c7_2 x9 (maxI ((mget c7_2 x9).getD 0) ((mget c7_2 x10.1.A).getD 0))) x10.1.B).getD 0))) x9 (maxI ((mget (mput (mput c7_2 x9 (maxI ((mget c7_2 x9).getD 0) ((mget c7_2 x10.1.A).getD 0))) x9 (maxI ((mget (mput c7_2 x9 (maxI ((mget c7_2 x9).getD 0) ((mget c7_2 x10.1.A).getD 0))) x9).getD 0) ((mget (mput c7_2 x9 (maxI ((mget c7_2 x9).getD 0) ((mget c7_2 x10.1.A).getD 0))) x10.1.B).getD 0))) x9).getD 0) ((mget (mput (mput c7_2 x9 (maxI ((mget c7_2 x9).getD 0) ((mget c7_2 x10.1.A).getD 0))) x9 (maxI ((mget (mput c7_2 x9 (maxI ((mget c7_2 x9).getD 0) ((mget c7_2 x10.1.A).getD 0))) x9).getD 0) ((mget (mput c7_2 x9 (maxI ((mget c7_2 x9).getD 0) ((mget c7_2 x10.1.A).getD 0))) x10.1.B).getD 0))) x10.1.C).getD 0))) x9).getD 0) + 1))), ⟨rfl, rfl, rfl, rfl, rfl, rfl, rfl, rfl, rfl, rfl, rfl, rfl, trivial⟩, rfl, hs⟩, fun _ s => s.pre⟩
            · replace hs := cond_f h16 hs
              refine WP.skip ?_
              refine WP.region ?_
              refine WO.val (PO.addK (c := 3) rfl rfl (by decide)) rfl ?_
              refine WO.val (PO.move rfl) rfl ?_
              refine WO.nil ?_
              refine WPR.succ ?_
              refine WP.seq ?_
              refine WP.region ?_
              refine WO.val (PO.lss rfl rfl) rfl ?_
              refine WO.nil ?_
              refine WP.seq ?_
              refine WP.condF rfl ?_
              refine WP.exit (inX.hit ?_)
              refine WP.region ?_
              refine WO.val (PO.move rfl) rfl ?_
              refine WO.val (PO.move rfl) rfl ?_
              refine WO.val (PO.lookup1 (a := x9) (z := 0) 5 int_key rfl rfl Tryz.runUnderlying86 Tryz.zeroValue3 rfl) rfl ?_
              refine WO.val (PO.add rfl rfl) rfl ?_
              refine WO.step (SO.of rfl (EO.mapUpdate (a := x9) (b := (IntKind.i64.wrap (((mget (mput (mput c7_2 x9 (maxI ((mget c7_2 x9).getD 0) ((mget c7_2 x10.1.A).getD 0))) x9 (maxI ((mget (mput c7_2 x9 (maxI ((mget c7_2 x9).getD 0) ((mget c7_2 x10.1.A).getD 0))) x9).getD 0) ((mget (mput c7_2 x9 (maxI ((mget c7_2 x9).getD 0) ((mget c7_2 x10.1.A).getD 0))) x10.1.B).getD 0))) x9).getD 0) + 1))) 5 _ int_key rfl rfl rfl Tryz.runUnderlying86 rfl rfl)) rfl ?_
              rintro _ _ rfl
              refine WO.toL [stAt p0 S, F, slc 3 1 (.slice (some ⟨b1, 0, none⟩) 1 1) ([s]).length (fl ic ([s])), slc 3 1 v3 x2.1.length (fl ic x2.1), mapAt iv uv b5 (mput (mput (mput c7_1 x9 1) x9 x13) x9 x15), mapAt iv iv b6 (mput (mput (mput c7_2 x9 (maxI ((mget c7_2 x9).getD 0) ((mget c7_2 x10.1.A).getD 0))) x9 (maxI ((mget (mput c7_2 x9 (maxI ((mget c7_2 x9).getD 0) ((mget c7_2 x10.1.A).getD 0))) x9).getD 0) ((mget (mput c7_2 x9 (maxI ((mget c7_2 x9).getD 0) ((mget c7_2 x10.1.A).getD 0))) x10.1.B).getD 0))) x9 (IntKind.i64.wrap (((mget (mput (mput c7_2 x9 (maxI ((mget c7_2 x9).getD 0) ((mget c7_2 x10.1.A).getD 0))) x9 (maxI ((mget (mput c7_2 x9 (maxI ((mget c7_2 x9).getD 0) ((mget c7_2 x10.1.A).getD 0))) x9).getD 0) ((mget (mput c7_2 x9 (maxI ((mget c7_2 x9).getD 0) ((mget c7_2 x10.1.A).getD 0))) x10.1.B).getD 0))) x9).getD 0) + 1))), pt b11 (.cells #[.int .i64 x10.1.Op, .int .i64 x10.1.W, .int .i64 x10.1.A, .int .i64 x10.1.B, .int .i64 x10.1.C, .int .u64 x10.1.Num, .string x10.1.Name] 45 (0, 0))] rfl ?_
              refine WO.nil ?_
              refine WP.region ?_
              refine WO.val (PO.add rfl rfl) rfl ?_
              refine WO.val (PO.move rfl) rfl ?_
              refine WO.nil ?_
              exact ⟨c7_k, _, Nat.lt_succ_self _, ⟨(IntKind.i64.wrap (c7_0 + 1)), (mput (mput (mput c7_1 x9 1) x9 x13) x9 x15), (mput (mput (mput c7_2 x9 (maxI ((mget c7_2 x9).getD 0) ((mget c7_2 x10.1.A).getD 0))) x9 (maxI ((mget (mput c7_2 x9 (maxI ((mget c7_2 x9).getD 0) ((mget c7_2 x10.1.A).getD 0))) x9).getD 0) ((mget (mput c7_2 x9 (maxI ((mget c7_2 x9).getD 0) ((mget c7_2 x10.1.A).getD 0))) x10.1.B).getD 0))) x9 (IntKind.i64.wrap (((mget (mput (mput c7_2 x9 (maxI ((mget c7_2 x9).getD 0) ((mget c7_2 x10.1.A).getD 0))) x9 (maxI ((mget (mput c7_2 x9 (maxI ((mget c7_2 x9).getD 0) ((mget c7_2 x10.1.A).getD 0))) x9).getD 0) ((mget (mput c7_2 x9 (maxI ((mget c7_2 x9).getD 0) ((mget c7_2 x10.1.A).getD 0))) x10.1.B).getD 0))) x9).getD 0) + 1))), ⟨rfl, rfl, rfl, rfl, rfl, rfl, rfl, rfl, rfl, rfl, rfl, rfl, trivial⟩, rfl, hs⟩, fun _ s => s.pre⟩
          · replace hs := cond_f h14 hs
            refine WP.skip ?_
            refine WP.region ?_
            refine WO.val (PO.addK (c := 2) rfl rfl (by decide)) rfl ?_
            refine WO.val (PO.move rfl) rfl ?_
            refine WO.nil ?_
            refine WPR.succ ?_
            refine WP.seq ?_
            refine WP.region ?_
            refine WO.val (PO.lss rfl rfl) rfl ?_
            refine WO.nil ?_
            refine WP.seq ?_
            refine WP.condT rfl ?_
            refine WP.skip ?_
            refine WP.seq ?_
            refine WP.block ?_
            refine WP.seq ?_
            refine WP.region ?_
            refine WO.val (PO.idxArr (i := 2) rfl rfl Tryz.runUnderlying100 Tryz.sizeOf3 Tryz.isAgg3 rfl rfl rfl) rfl ?_
            refine WO.val (PO.assign rfl) rfl ?_
            refine WO.nil ?_
            refine WP.seq ?_
            refine WP.region ?_
            refine WO.val (PO.move rfl) rfl ?_
            refine WO.val (PO.neq rfl rfl) rfl ?_
            refine WO.nil ?_
            refine WP.cond rfl (fun h18 => ?_) (fun h18 => ?_)
            · replace hs := cond_t h18 hs
              refine WP.seq ?_
              refine WP.region ?_
              refine WO.val (PO.move rfl) rfl ?_
              refine WO.val (PO.move rfl) rfl ?_
              refine WO.val (PO.move rfl) rfl ?_
              refine WO.val (PO.move rfl) rfl ?_
              refine WO.val (PO.lookup1 (a := x9) (z := 0) 4 int_key rfl rfl Tryz.runUnderlying85 Tryz.zeroValue33 rfl) rfl ?_
              refine WO.val (PO.move rfl) rfl ?_
              refine WO.val (PO.move rfl) rfl ?_
              refine WO.val (PO.lookup1 (a := x10.1.C) (z := 0) 4 int_key rfl rfl Tryz.runUnderlying85 Tryz.zeroValue33 rfl) rfl ?_
              obtain ⟨x19, hx19, hs⟩ := lt_elim hs
              refine WO.vo (VO.call0 Tryz.call53 rfl (t_Ev_plus hx19)) rfl ?_
              refine WO.step (SO.of rfl (EO.mapUpdate (a := x9) (b := x19) 4 _ int_key rfl rfl rfl Tryz.runUnderlying85 rfl rfl)) rfl ?_
              rintro _ _ rfl
              refine WO.toL [stAt p0 S, F, slc 3 1 (.slice (some ⟨b1, 0, none⟩) 1 1) ([s]).length (fl ic ([s])), slc 3 1 v3 x2.1.length (fl ic x2.1), mapAt iv uv b5 (mput (mput (mput c7_1 x9 1) x9 x13) x9 x19), mapAt iv iv b6 (mput c7_2 x9 (maxI ((mget c7_2 x9).getD 0) ((mget c7_2 x10.1.A).getD 0))), pt b11 (.cells #[.int .i64 x10.1.Op, .int .i64 x10.1.W, .int .i64 x10.1.A, .int .i64 x10.1.B, .int .i64 x10.1.C, .int .u64 x10.1.Num, .string x10.1.Name] 45 (0, 0))] rfl ?_
              refine WO.nil ?_
              refine WP.region ?_
              refine WO.val (PO.move rfl) rfl ?_
              refine WO.val (PO.move rfl) rfl ?_
              refine WO.val (PO.move rfl) rfl ?_
              refine WO.val (PO.move rfl) rfl ?_
              refine WO.val (PO.lookup1 (a := x9) (z := 0) 5 int_key rfl rfl Tryz.runUnderlying86 Tryz.zeroValue3 rfl) rfl ?_
              refine WO.val (PO.move rfl) rfl ?_
              refine WO.val (PO.move rfl) rfl ?_
              refine WO.val (PO.lookup1 (a := x10.1.C) (z := 0) 5 int_key rfl rfl Tryz.runUnderlying86 Tryz.zeroValue3 rfl) rfl ?_
              refine WO.val (PO.max2 rfl rfl) rfl ?_
              refine WO.step (SO.of rfl (EO.mapUpdate (a := x9) (b := (maxI ((mget (mput c7_2 x9 (maxI ((mget c7_2 x9).getD 0) ((mget c7_2 x10.1.A).getD 0))) x9).getD 0) ((mget (mput c7_2 x9 (maxI ((mget c7_2 x9).getD 0) ((mget c7_2 x10.1.A).getD 0))) x10.1.C).getD 0))) 5 _ int_key rfl rfl rfl Tryz.runUnderlying86 rfl rfl)) rfl ?_
              rintro _ _ rfl
              refine WO.toL [stAt p0 S, F, slc 3 1 (.slice (some ⟨b1, 0, none⟩) 1 1) ([s]).length (fl ic ([s])), slc 3 1 v3 x2.1.length (fl ic x2.1), mapAt iv uv b5 (mput (mput (mput c7_1 x9 1) x9 x13) x9 x19), mapAt iv iv b6 (mput (mput c7_2 x9 (maxI ((mget c7_2 x9).getD 0) ((mget c7_2 x10.1.A).getD 0))) x9 (maxI ((mget (mput c7_2 x9 (maxI ((mget c7_2 x9).getD 0) ((mget c7_2 x10.1.A).getD 0))) x9).getD 0) ((mget (mput c7_2 x9 (maxI ((mget c7_2 x9).getD 0) ((mget c7_2 x10.1.A).getD 0))) x10.1.C).getD 0))), pt b11 (.cells #[.int .i64 x10.1.Op, .int .i64 x10.1.W, .int .i64 x10.1.A, .int .i64 x10.1.B, .int .i64 x10.1.C, .int .u64 x10.1.Num, .string x10.1.Name] 45 (0, 0))] rfl ?_
              refine WO.nil ?_
              refine WP.region ?_
              refine WO.val (PO.addK (c := 3) rfl rfl (by decide)) rfl ?_
              refine WO.val (PO.move rfl) rfl ?_
              refine WO.nil ?_
              refine WPR.succ ?_
              refine WP.seq ?_
              refine WP.region ?_
              refine WO.val (PO.lss rfl rfl) rfl ?_
              refine WO.nil ?_
              refine WP.seq ?_
              refine WP.condF rfl ?_
              refine WP.exit (inX.hit ?_)
              refine WP.region ?_
              refine WO.val (PO.move rfl) rfl ?_
              refine WO.val (PO.move rfl) rfl ?_
              refine WO.val (PO.lookup1 (a := x9) (z := 0) 5 int_key rfl rfl Tryz.runUnderlying86 Tryz.zeroValue3 rfl) rfl ?_
              refine WO.val (PO.add rfl rfl) rfl ?_
              refine WO.step (SO.of rfl (EO.mapUpdate (a := x9) (b := (IntKind.i64.wrap (((mget (mput (mput c7_2 x9 (maxI ((mget c7_2 x9).getD 0) ((mget c7_2 x10.1.A).getD 0))) x9 (maxI ((mget (mput c7_2 x9 (maxI ((mget c7_2 x9).getD 0) ((mget c7_2 x10.1.A).getD 0))) x9).getD 0) ((mget (mput c7_2 x9 (maxI ((mget c7_2 x9).getD 0) ((mget c7_2 x10.1.A).getD 0))) x10.1.C).getD 0))) x9).getD 0) + 1))) 5 _ int_key rfl rfl rfl Tryz.runUnderlying86 rfl rfl)) rfl ?_
              rintro _ _ rfl
              refine WO.toL [stAt p0 S, F, slc 3 1 (.slice (some ⟨b1, 0, none⟩) 1 1) ([s]).length (fl ic ([s])), slc 3 1 v3 x2.1.length (fl ic x2.1), mapAt iv uv b5 (mput (mput (mput c7_1 x9 1) x9 x13) x9 x19), mapAt iv iv b6 (mput (mput (mput c7_2 x9 (maxI ((mget c7_2 x9).getD 0) ((mget c7_2 x10.1.A).getD 0))) x9 (maxI ((mget (mput c7_2 x9 (maxI ((mget c7_2 x9).getD 0) ((mget c7_2 x10.1.A).getD 0))) x9).getD 0) ((mget (mput c7_2 x9 (maxI ((mget c7_2 x9).getD 0) ((mget c7_2 x10.1.A).getD 0))) x10.1.C).getD 0))) x9 (IntKind.i64.wrap (((mget (mput (mput c7_2 x9 (maxI ((mget c7_2 x9).getD 0) ((mget c7_2 x10.1.A).getD 0))) x9 (maxI ((mget (mput c7_2 x9 (maxI ((mget c7_2 x9).getD 0) ((mget c7_2 x10.1.A).getD 0))) x9).getD 0) ((mget (mput c7_2 x9 (maxI ((mget c7_2 x9).getD 0) ((mget c7_2 x10.1.A).getD 0))) x10.1.C).getD 0))) x9).getD 0) + 1))), pt b11 (.cells #[.int .i64 x10.1.Op, .int .i64 x10.1.W, .int .i64 x10.1.A, .int .i64 x10.1.B, .int .i64 x10.1.C, .int .u64 x10.1.Num, .string x10.1.Name] 45 (0, 0))] rfl ?_
              refine WO.nil ?_
              refine WP.region ?_
              refine WO.val (PO.add rfl rfl) rfl ?_
              refine WO.val (PO.move rfl) rfl ?_
              refine WO.nil ?_
              exact ⟨c7_k, _, Nat.lt_succ_self _, ⟨(IntKind.i64.wrap (c7_0 + 1)), (mput (mput (mput c7_1 x9 1) x9 x13) x9 x19), (mput (mput (mput c7_2 x9 (maxI ((mget c7_2 x9).getD 0) ((mget c7_2 x10.1.A).getD 0))) x9 (maxI ((mget (mput c7_2 x9 (maxI ((mget c7_2 x9).getD 0) ((mget c7_2 x10.1.A).getD 0))) x9).getD 0) ((mget (mput c7_2 x9 (maxI ((mget c7_2 x9).getD 0) ((mget c7_2 x10.1.A).getD 0))) x10.1.C).getD 0))) x9 (IntKind.i64.wrap (((mget (mput (mput c7_2 x9 (maxI ((mget c7_2 x9).getD 0) ((mget c7_2 x10.1.A).getD 0))) x9 (maxI ((mget (mput c7_2 x9 (maxI ((mget c7_2 x9).getD 0) ((mget c7_2 x10.1.A).getD 0))) x9).getD 0) ((mget (mput c7_2 x9 (maxI ((mget c7_2 x9).getD 0) ((mget c7_2 x10.1.A).getD 0))) x10.1.C).getD 0))) x9).getD 0) + 1))), ⟨rfl, rfl, rfl, rfl, rfl, rfl, rfl, rfl, rfl, rfl, rfl, rfl, trivial⟩, rfl, hs⟩, fun _ s => s.pre⟩
            · replace hs := cond_f h18 hs
              refine WP.skip ?_
              refine WP.region ?_
              refine WO.val (PO.addK (c := 3) rfl rfl (by decide)) rfl ?_
              refine WO.val (PO.move rfl) rfl ?_
              refine WO.nil ?_
              refine WPR.succ ?_
              refine WP.seq ?_
              refine WP.region ?_
              refine WO.val (PO.lss rfl rfl) rfl ?_
              refine WO.nil ?_
              refine WP.seq ?_
              refine WP.condF rfl ?_
              refine WP.exit (inX.hit ?_)
              refine WP.region ?_
              refine WO.val (PO.move rfl) rfl ?_
              refine WO.val (PO.move rfl) rfl ?_
              refine WO.val (PO.lookup1 (a := x9) (z := 0) 5 int_key rfl rfl Tryz.runUnderlying86 Tryz.zeroValue3 rfl) rfl ?_
              refine WO.val (PO.add rfl rfl) rfl ?_
              refine WO.step (SO.of rfl (EO.mapUpdate (a := x9) (b := (IntKind.i64.wrap (((mget (mput c7_2 x9 (maxI ((mget c7_2 x9).getD 0) ((mget c7_2 x10.1.A).getD 0))) x9).getD 0) + 1))) 5 _ int_key rfl rfl rfl Tryz.runUnderlying86 rfl rfl)) rfl ?_
              rintro _ _ rfl
              refine WO.toL [stAt p0 S, F, slc 3 1 (.slice (some ⟨b1, 0, none⟩) 1 1) ([s]).length (fl ic ([s])), slc 3 1 v3 x2.1.length (fl ic x2.1), mapAt iv uv b5 (mput (mput c7_1 x9 1) x9 x13), mapAt iv iv b6 (mput (mput c7_2 x9 (maxI ((mget c7_2 x9).getD 0) ((mget c7_2 x10.1.A).getD 0))) x9 (IntKind.i64.wrap (((mget (mput c7_2 x9 (maxI ((mget c7_2 x9).getD 0) ((mget c7_2 x10.1.A).getD 0))) x9).getD 0) + 1))), pt b11 (.cells #[.int .i64 x10.1.Op, .int .i64 x10.1.W, .int .i64 x10.1.A, .int .i64 x10.1.B, .int .i64 x10.1.C, .int .u64 x10.1.Num, .string x10.1.Name] 45 (0, 0))] rfl ?_
              refine WO.nil ?_
              refine WP.region ?_
              refine WO.val (PO.add rfl rfl) rfl ?_
              refine WO.val (PO.move rfl) rfl ?_
              refine WO.nil ?_
              exact ⟨c7_k, _, Nat.lt_succ_self _, ⟨(IntKind.i64.wrap (c7_0 + 1)), (mput (mput c7_1 x9 1) x9 x13), (mput (mput c7_2 x9 (maxI ((mget c7_2 x9).getD 0) ((mget c7_2 x10.1.A).getD 0))) x9 (IntKind.i64.wrap (((mget (mput c7_2 x9 (maxI ((mget c7_2 x9).getD 0) ((mget c7_2 x10.1.A).getD 0))) x9).getD 0) + 1))), ⟨rfl, rfl, rfl, rfl, rfl, rfl, rfl, rfl, rfl, rfl, rfl, rfl, trivial⟩, rfl, hs⟩, fun _ s => s.pre⟩
        · replace hs := cond_f h12 hs
          refine WP.skip ?_
          refine WP.region ?_
          refine WO.val (PO.addK (c := 1) rfl rfl (by decide)) rfl ?_
          refine WO.val (PO.move rfl) rfl ?_
          refine WO.nil ?_
          refine WPR.succ ?_
          refine WP.seq ?_
          refine WP.region ?_
          refine WO.val (PO.lss rfl rfl) rfl ?_
          refine WO.nil ?_
          refine WP.seq ?_
          refine WP.condT rfl ?_
          refine WP.skip ?_
          refine WP.seq ?_
          refine WP.block ?_
          refine WP.seq ?_
          refine WP.region ?_
          refine WO.val (PO.idxArr (i := 1) rfl rfl Tryz.runUnderlying100 Tryz.sizeOf3 Tryz.isAgg3 rfl rfl rfl) rfl ?_
          refine WO.val (PO.assign rfl) rfl ?_
          refine WO.nil ?_
          refine WP.seq ?_
          refine WP.region ?_
          refine WO.val (PO.move rfl) rfl ?_
          refine WO.val (PO.neq rfl rfl) rfl ?_
          refine WO.nil ?_
          refine WP.cond rfl (fun h20 => ?_) (fun h20 => ?_)
          · replace hs := cond_t h20 hs
            refine WP.seq ?_
            refine WP.region ?_
            refine WO.val (PO.move rfl) rfl ?_
            refine WO.val (PO.move rfl) rfl ?_
            refine WO.val (PO.move rfl) rfl ?_
            refine WO.val (PO.move rfl) rfl ?_
            refine WO.val (PO.lookup1 (a := x9) (z := 0) 4 int_key rfl rfl Tryz.runUnderlying85 Tryz.zeroValue33 rfl) rfl ?_
            refine WO.val (PO.move rfl) rfl ?_
            refine WO.val (PO.move rfl) rfl ?_
            refine WO.val (PO.lookup1 (a := x10.1.B) (z := 0) 4 int_key rfl rfl Tryz.runUnderlying85 Tryz.zeroValue33 rfl) rfl ?_
            obtain ⟨x21, hx21, hs⟩ := lt_elim hs
            refine WO.vo (VO.call0 Tryz.call53 rfl (t_Ev_plus hx21)) rfl ?_
            refine WO.step (SO.of rfl (EO.mapUpdate (a := x9) (b := x21) 4 _ int_key rfl rfl rfl Tryz.runUnderlying85 rfl rfl)) rfl ?_
            rintro _ _ rfl
            refine WO.toL [stAt p0 S, F, slc 3 1 (.slice (some ⟨b1, 0, none⟩) 1 1) ([s]).length (fl ic ([s])), slc 3 1 v3 x2.1.length (fl ic x2.1), mapAt iv uv b5 (mput (mput c7_1 x9 1) x9 x21), mapAt iv iv b6 c7_2, pt b11 (.cells #[.int .i64 x10.1.Op, .int .i64 x10.1.W, .int .i64 x10.1.A, .int .i64 x10.1.B, .int .i64 x10.1.C, .int .u64 x10.1.Num, .string x10.1.Name] 45 (0, 0))] rfl ?_
            refine WO.nil ?_
            refine WP.region ?_
            refine WO.val (PO.move rfl) rfl ?_
            refine WO.val (PO.move rfl) rfl ?_
            refine WO.val (PO.move rfl) rfl ?_
            refine WO.val (PO.move rfl) rfl ?_
            refine WO.val (PO.lookup1 (a := x9) (z := 0) 5 int_key rfl rfl Tryz.runUnderlying86 Tryz.zeroValue3 rfl) rfl ?_
            refine WO.val (PO.move rfl) rfl ?_
            refine WO.val (PO.move rfl) rfl ?_
            refine WO.val (PO.lookup1 (a := x10.1.B) (z := 0) 5 int_key rfl rfl Tryz.runUnderlying86 Tryz.zeroValue3 rfl) rfl ?_
            refine WO.val (PO.max2 rfl rfl) rfl ?_
            refine WO.step (SO.of rfl (EO.mapUpdate (a := x9) (b := (maxI ((mget c7_2 x9).getD 0) ((mget c7_2 x10.1.B).getD 0))) 5 _ int_key rfl rfl rfl Tryz.runUnderlying86 rfl rfl)) rfl ?_
            rintro _ _ rfl
            refine WO.toL [stAt p0 S, F, slc 3 1 (.slice (some ⟨b1, 0, none⟩) 1 1) ([s]).length (fl ic ([s])), slc 3 1 v3 x2.1.length (fl ic x2.1), mapAt iv uv b5 (mput (mput c7_1 x9 1) x9 x21), mapAt iv iv b6 (mput c7_2 x9 (maxI ((mget c7_2 x9).getD 0) ((mget c7_2 x10.1.B).getD 0))), pt b11 (.cells #[.int .i64 x10.1.Op, .int .i64 x10.1.W, .int .i64 x10.1.A, .int .i64 x10.1.B, .int .i64 x10.1.C, .int .u64 x10.1.Num, .string x10.1.Name] 45 (0, 0))] rfl ?_
            refine WO.nil ?_
            refine WP.region ?_
            refine WO.val (PO.addK (c := 2) rfl rfl (by decide)) rfl ?_
            refine WO.val (PO.move rfl) rfl ?_
            refine WO.nil ?_
            refine WPR.succ ?_
            refine WP.seq ?_
            refine WP.region ?_
            refine WO.val (PO.lss rfl rfl) rfl ?_
            refine WO.nil ?_
            refine WP.seq ?_
            refine WP.condT rfl ?_
            refine WP.skip ?_
            refine WP.seq ?_
            refine WP.block ?_
            refine WP.seq ?_
            refine WP.region ?_
            refine WO.val (PO.idxArr (i := 2) rfl rfl Tryz.runUnderlying100 Tryz.sizeOf3 Tryz.isAgg3 rfl rfl rfl) rfl ?_
            refine WO.val (PO.assign rfl) rfl ?_
            refine WO.nil ?_
            refine WP.seq ?_
            refine WP.region ?_
            refine WO.val (PO.move rfl) rfl ?_
            refine WO.val (PO.neq rfl rfl) rfl ?_
            refine WO.nil ?_
            refine WP.cond rfl (fun h22 => ?_) (fun h22 => ?_)
            · replace hs := cond_t h22 hs
              refine WP.seq ?_
              refine WP.region ?_
              refine WO.val (PO.move rfl) rfl ?_
              refine WO.val (PO.move rfl) rfl ?_
              refine WO.val (PO.move rfl) rfl ?_
              refine WO.val (PO.move rfl) rfl ?_
              refine WO.val (PO.lookup1 (a := x9) (z := 0) 4 int_key rfl rfl Tryz.runUnderlying85 Tryz.zeroValue33 rfl) rfl ?_
              refine WO.val (PO.move rfl) rfl ?_
              refine WO.val (PO.move rfl) rfl ?_
              refine WO.val (PO.lookup1 (a := x10.1.C) (z := 0) 4 int_key rfl rfl Tryz.runUnderlying85 Tryz.zeroValue33 rfl) rfl ?_
              obtain ⟨x23, hx23, hs⟩ := lt_elim hs
              refine WO.vo (VO.call0 Tryz.call53 rfl (t_Ev_plus hx23)) rfl ?_
              refine WO.step (SO.of rfl (EO.mapUpdate (a := x9) (b := x23) 4 _ int_key rfl rfl rfl Tryz.runUnderlying85 rfl rfl)) rfl ?_
              rintro _ _ rfl
              refine WO.toL [stAt p0 S, F, slc 3 1 (.slice (some ⟨b1, 0, none⟩) 1 1) ([s]).length (fl ic ([s])), slc 3 1 v3 x2.1.length (fl ic x2.1), mapAt iv uv b5 (mput (mput (mput c7_1 x9 1) x9 x21) x9 x23), mapAt iv iv b6 (mput c7_2 x9 (maxI ((mget c7_2 x9).getD 0) ((mget c7_2 x10.1.B).getD 0))), pt b11 (.cells #[.int .i64 x10.1.Op, .int .i64 x10.1.W, .int .i64 x10.1.A, .int .i64 x10.1.B, .int .i64 x10.1.C, .int .u64 x10.1.Num, .string x10.1.Name] 45 (0, 0))] rfl ?_
              refine WO.nil ?_
              refine WP.region ?_
              refine WO.val (PO.move rfl) rfl ?_
              refine WO.val (PO.move rfl) rfl ?_
              refine WO.val (PO.move rfl) rfl ?_
              refine WO.val (PO.move rfl) rfl ?_
              refine WO.val (PO.lookup1 (a := x9) (z := 0) 5 int_key rfl rfl Tryz.runUnderlying86 Tryz.zeroValue3 rfl) rfl ?_
              refine WO.val (PO.move rfl) rfl ?_
              refine WO.val (PO.move rfl) rfl ?_
              refine WO.val (PO.lookup1 (a := x10.1.C) (z := 0) 5 int_key rfl rfl Tryz.runUnderlying86 Tryz.zeroValue3 rfl) rfl ?_
              refine WO.val (PO.max2 rfl rfl) rfl ?_
              refine WO.step (SO.of rfl (EO.mapUpdate (a := x9) (b := (maxI ((mget (mput c7_2 x9 (maxI ((mget c7_2 x9).getD 0) ((mget c7_2 x10.1.B).getD 0))) x9).getD 0) ((mget (mput c7_2 x9 (maxI ((mget c7_2 x9).getD 0) ((mget c7_2 x10.1.B).getD 0))) x10.1.C).getD 0))) 5 _ int_key rfl rfl rfl Tryz.runUnderlying86 rfl rfl)) rfl ?_
              rintro _ _ rfl
              refine WO.toL [stAt p0 S, F, slc 3 1 (.slice (some ⟨b1, 0, none⟩) 1 1) ([s]).length (fl ic ([s])), slc 3 1 v3 x2.1.length (fl ic x2.1), mapAt iv uv b5 (mput (mput (mput c7_1 x9 1) x9 x21) x9 x23), mapAt iv iv b6 (mput (mput c7_2 x9 (maxI ((mget c7_2 x9).getD 0) ((mget c7_2 x10.1.B).getD 0))) x9 (maxI ((mget (mput c7_2 x9 (maxI ((mget c7_2 x9).getD 0) ((mget c7_2 x10.1.B).getD 0))) x9).getD 0) ((mget (mput c7_2 x9 (maxI ((mget c7_2 x9).getD 0) ((mget c7_2 x10.1.B).getD 0))) x10.1.C).getD 0))), pt b11 (.cells #[.int .i64 x10.1.Op, .int .i64 x10.1.W, .int .i64 x10.1.A, .int .i64 x10.1.B, .int .i64 x10.1.C, .int .u64 x10.1.Num, .string x10.1.Name] 45 (0, 0))] rfl ?_
              refine WO.nil ?_
              refine WP.region ?_
              refine WO.val (PO.addK (c := 3) rfl rfl (by decide)) rfl ?_
              refine WO.val (PO.move rfl) rfl ?_
              refine WO.nil ?_
              refine WPR.succ ?_
              refine WP.seq ?_
              refine WP.region ?_
              refine WO.val (PO.lss rfl rfl) rfl ?_
              refine WO.nil ?_
              refine WP.seq ?_
              refine WP.condF rfl ?_
              refine WP.exit (inX.hit ?_)
              refine WP.region ?_
              refine WO.val (PO.move rfl) rfl ?_
              refine WO.val (PO.move rfl) rfl ?_
              refine WO.val (PO.lookup1 (a := x9) (z := 0) 5 int_key rfl rfl Tryz.runUnderlying86 Tryz.zeroValue3 rfl) rfl ?_
              refine WO.val (PO.add rfl rfl) rfl ?_
              refine WO.step (SO.of rfl (EO.mapUpdate (a := x9) (b := (IntKind.i64.wrap (((mget (mput (mput c7_2 x9 (maxI ((mget c7_2 x9).getD 0) ((mget c7_2 x10.1.B).getD 0))) x9 (maxI ((mget (mput c7_2 x9 (maxI ((mget c7_2 x9).getD 0) ((mget c7_2 x10.1.B).getD 0))) x9).getD 0) ((mget (mput c7_2 x9 (maxI ((mget c7_2 x9).getD 0) ((mget c7_2 x10.1.B).getD 0))) x10.1.C).getD 0))) x9).getD 0) + 1))) 5 _ int_key rfl rfl rfl Tryz.runUnderlying86 rfl rfl)) rfl ?_
              rintro _ _ rfl
              refine WO.toL [stAt p0 S, F, slc 3 1 (.slice (some ⟨b1, 0, none⟩) 1 1) ([s]).length (fl ic ([s])), slc 3 1 v3 x2.1.length (fl ic x2.1), mapAt iv uv b5 (mput (mput (mput c7_1 x9 1) x9 x21) x9 x23), mapAt iv iv b6 (mput (mput (mput c7_2 x9 (maxI ((mget c7_2 x9).getD 0) ((mget c7_2 x10.1.B).getD 0))) x9 (maxI ((mget (mput c7_2 x9 (maxI ((mget c7_2 x9).getD 0) ((mget c7_2 x10.1.B).getD 0))) x9).getD 0) ((mget (mput c7_2 x9 (maxI ((mget c7_2 x9).getD 0) ((mget c7_2 x10.1.B).getD 0))) x10.1.C).getD 0))) x9 (IntKind.i64.wrap (((mget (mput (mput c7_2 x9 (maxI ((mget c7_2 x9).getD 0) ((mget c7_2 x10.1.B).getD 0))) x9 (maxI ((mget (mput c7_2 x9 (maxI ((mget c7_2 x9).getD 0) ((mget c7_2 x10.1.B).getD 0))) x9).getD 0) ((mget (mput c7_2 x9 (maxI ((mget c7_2 x9).getD 0) ((mget c7_2 x10.1.B).getD 0))) x10.1.C).getD 0))) x9).getD 0) + 1))), pt b11 (.cells #[.int .i64 x10.1.Op, .int .i64 x10.1.W, .int .i64 x10.1.A, .int .i64 x10.1.B, .int .i64 x10.1.C, .int .u64 x10.1.Num, .string x10.1.Name] 45 (0, 0))] rfl ?_
              refine WO.nil ?_
              refine WP.region ?_
              refine WO.val (PO.add rfl rfl) rfl ?_
              refine WO.val (PO.move rfl) rfl ?_
              refine WO.nil ?_
              exact ⟨c7_k, _, Nat.lt_succ_self _, ⟨(IntKind.i64.wrap (c7_0 + 1)), (mput (mput (mput c7_1 x9 1) x9 x21) x9 x23), (mput (mput (mput c7_2 x9 (maxI ((mget c7_2 x9).getD 0) ((mget c7_2 x10.1.B).getD 0))) x9 (maxI ((mget (mput c7_2 x9 (maxI ((mget c7_2 x9).getD 0) ((mget c7_2 x10.1.B).getD 0))) x9).getD 0) ((mget (mput c7_2 x9 (maxI ((mget c7_2 x9).getD 0) ((mget c7_2 x10.1.B).getD 0))) x10.1.C).getD 0))) x9 (IntKind.i64.wrap (((mget (mput (mput c7_2 x9 (maxI ((mget c7_2 x9).getD 0) ((mget c7_2 x10.1.B).getD 0))) x9 (maxI ((mget (mput c7_2 x9 (maxI ((mget c7_2 x9).getD 0) ((mget c7_2 x10.1.B).getD 0))) x9).getD 0) ((mget (mput c7_2 x9 (maxI ((mget c7_2 x9).getD 0) ((mget c7_2 x10.1.B).getD 0))) x10.1.C).getD 0))) x9).getD 0) + 1))), ⟨rfl, rfl, rfl, rfl, rfl, rfl, rfl, rfl, rfl, rfl, rfl, rfl, trivial⟩, rfl, hs⟩, fun _ s => s.pre⟩
            · replace hs := cond_f h22 hs
              refine WP.skip ?_
              refine WP.region ?_
              refine WO.val (PO.addK (c := 3) rfl rfl (by decide)) rfl ?_
              refine WO.val (PO.move rfl) rfl ?_
              refine WO.nil ?_
              refine WPR.succ ?_
              refine WP.seq ?_
              refine WP.region ?_
              refine WO.val (PO.lss rfl rfl) rfl ?_
              refine WO.nil ?_
              refine WP.seq ?_
              refine WP.condF rfl ?_
              refine WP.exit (inX.hit ?_)
              refine WP.region ?_
              refine WO.val (PO.move rfl) rfl ?_
              refine WO.val (PO.move rfl) rfl ?_
              refine WO.val (PO.lookup1 (a := x9) (z := 0) 5 int_key rfl rfl Tryz.runUnderlying86 Tryz.zeroValue3 rfl) rfl ?_
              refine WO.val (PO.add rfl rfl) rfl ?_
              refine WO.step (SO.of rfl (EO.mapUpdate (a := x9) (b := (IntKind.i64.wrap (((mget (mput c7_2 x9 (maxI ((mget c7_2 x9).getD 0) ((mget c7_2 x10.1.B).getD 0))) x9).getD 0) + 1))) 5 _ int_key rfl rfl rfl Tryz.runUnderlying86 rfl rfl)) rfl ?_
              rintro _ _ rfl
              refine WO.toL [stAt p0 S, F, slc 3 1 (.slice (some ⟨b1, 0, none⟩) 1 1) ([s]).length (fl ic ([s])), slc 3 1 v3 x2.1.length (fl ic x2.1), mapAt iv uv b5 (mput (mput c7_1 x9 1) x9 x21), mapAt iv iv b6 (mput (mput c7_2 x9 (maxI ((mget c7_2 x9).getD 0) ((mget c7_2 x10.1.B).getD 0))) x9 (IntKind.i64.wrap (((mget (mput c7_2 x9 (maxI ((mget c7_2 x9).getD 0) ((mget c7_2 x10.1.B).getD 0))) x9).getD 0) + 1))), pt b11 (.cells #[.int .i64 x10.1.Op, .int .i64 x10.1.W, .int .i64 x10.1.A, .int .i64 x10.1.B, .int .i64 x10.1.C, .int .u64 x10.1.Num, .string x10.1.Name] 45 (0, 0))] rfl ?_
              refine WO.nil ?_
              refine WP.region ?_
              refine WO.val (PO.add rfl rfl) rfl ?_
              refine WO.val (PO.move rfl) rfl ?_
              refine WO.nil ?_
              exact ⟨c7_k, _, Nat.lt_succ_self _, ⟨(IntKind.i64.wrap (c7_0 + 1)), (mput (mput c7_1 x9 1) x9 x21), (mput (mput c7_2 x9 (maxI ((mget c7_2 x9).getD 0) ((mget c7_2 x10.1.B).getD 0))) x9 (IntKind.i64.wrap (((mget (mput c7_2 x9 (maxI ((mget c7_2 x9).getD 0) ((mget c7_2 x10.1.B).getD 0))) x9).getD 0) + 1))), ⟨rfl, rfl, rfl, rfl, rfl, rfl, rfl, rfl, rfl, rfl, rfl, rfl, trivial⟩, rfl, hs⟩, fun _ s => s.pre⟩
          · replace hs := cond_f h20 hs
            refine WP.skip ?_
            refine WP.region ?_
            refine WO.val (PO.addK (c := 2) rfl rfl (by decide)) rfl ?_
            refine WO.val (PO.move rfl) rfl ?_
            refine WO.nil ?_
            refine WPR.succ ?_
            refine WP.seq ?_
            refine WP.region ?_
            refine WO.val (PO.lss rfl rfl) rfl ?_
            refine WO.nil ?_
            refine WP.seq ?_
            refine WP.condT rfl ?_
            refine WP.skip ?_
            refine WP.seq ?_
            refine WP.block ?_
            refine WP.seq ?_
            refine WP.region ?_
            refine WO.val (PO.idxArr (i := 2) rfl rfl Tryz.runUnderlying100 Tryz.sizeOf3 Tryz.isAgg3 rfl rfl rfl) rfl ?_
            refine WO.val (PO.assign rfl) rfl ?_
            refine WO.nil ?_
            refine WP.seq ?_
            refine WP.region ?_
            refine WO.val (PO.move rfl) rfl ?_
            refine WO.val (PO.neq rfl rfl) rfl ?_
            refine WO.nil ?_
            refine WP.cond rfl (fun h24 => ?_) (fun h24 => ?_)
            · replace hs := cond_t h24 hs
              refine WP.seq ?_
              refine WP.region ?_
              refine WO.val (PO.move rfl) rfl ?_
              refine WO.val (PO.move rfl) rfl ?_
              refine WO.val (PO.move rfl) rfl ?_
              refine WO.val (PO.move rfl) rfl ?_
              refine WO.val (PO.lookup1 (a := x9) (z := 0) 4 int_key rfl rfl Tryz.runUnderlying85 Tryz.zeroValue33 rfl) rfl ?_
              refine WO.val (PO.move rfl) rfl ?_
              refine WO.val (PO.move rfl) rfl ?_
              refine WO.val (PO.lookup1 (a := x10.1.C) (z := 0) 4 int_key rfl rfl Tryz.runUnderlying85 Tryz.zeroValue33 rfl) rfl ?_
              obtain ⟨x25, hx25, hs⟩ := lt_elim hs
              refine WO.vo (VO.call0 Tryz.call53 rfl (t_Ev_plus hx25)) rfl ?_
              refine WO.step (SO.of rfl (EO.mapUpdate (a := x9) (b := x25) 4 _ int_key rfl rfl rfl Tryz.runUnderlying85 rfl rfl)) rfl ?_
              rintro _ _ rfl
              refine WO.toL [stAt p0 S, F, slc 3 1 (.slice (some ⟨b1, 0, none⟩) 1 1) ([s]).length (fl ic ([s])), slc 3 1 v3 x2.1.length (fl ic x2.1), mapAt iv uv b5 (mput (mput c7_1 x9 1) x9 x25), mapAt iv iv b6 c7_2, pt b11 (.cells #[.int .i64 x10.1.Op, .int .i64 x10.1.W, .int .i64 x10.1.A, .int .i64 x10.1.B, .int .i64 x10.1.C, .int .u64 x10.1.Num, .string x10.1.Name] 45 (0, 0))] rfl ?_
              refine WO.nil ?_
              refine WP.region ?_
              refine WO.val (PO.move rfl) rfl ?_
              refine WO.val (PO.move rfl) rfl ?_
              refine WO.val (PO.move rfl) rfl ?_
              refine WO.val (PO.move rfl) rfl ?_
              refine WO.val (PO.lookup1 (a := x9) (z := 0) 5 int_key rfl rfl Tryz.runUnderlying86 Tryz.zeroValue3 rfl) rfl ?_
              refine WO.val (PO.move rfl) rfl ?_
              refine WO.val (PO.move rfl) rfl ?_
              refine WO.val (PO.lookup1 (a := x10.1.C) (z := 0) 5 int_key rfl rfl Tryz.runUnderlying86 Tryz.zeroValue3 rfl) rfl ?_
              refine WO.val (PO.max2 rfl rfl) rfl ?_
              refine WO.step (SO.of rfl (EO.mapUpdate (a := x9) (b := (maxI ((mget c7_2 x9).getD 0) ((mget c7_2 x10.1.C).getD 0))) 5 _ int_key rfl rfl rfl Tryz.runUnderlying86 rfl rfl)) rfl ?_
              rintro _ _ rfl
              refine WO.toL [stAt p0 S, F, slc 3 1 (.slice (some ⟨b1, 0, none⟩) 1 1) ([s]).length (fl ic ([s])), slc 3 1 v3 x2.1.length (fl ic x2.1), mapAt iv uv b5 (mput (mput c7_1 x9 1) x9 x25), mapAt iv iv b6 (mput c7_2 x9 (maxI ((mget c7_2 x9).getD 0) ((mget c7_2 x10.1.C).getD 0))), pt b11 (.cells #[.int .i64 x10.1.Op, .int .i64 x10.1.W, .int .i64 x10.1.A, .int .i64 x10.1.B, .int .i64 x10.1.C, .int .u64 x10.1.Num, .string x10.1.Name] 45 (0, 0))] rfl ?_
              refine WO.nil ?_
              refine WP.region ?_
              refine WO.val (PO.addK (c := 3) rfl rfl (by decide)) rfl ?_
              refine WO.val (PO.move rfl) rfl ?_
              refine WO.nil ?_
              refine WPR.succ ?_
              refine WP.seq ?_
              refine WP.region ?_
              refine WO.val (PO.lss rfl rfl) rfl ?_
              refine WO.nil ?_
              refine WP.seq ?_
              refine WP.condF rfl ?_
              refine WP.exit (inX.hit ?_)
              refine WP.region ?_
              refine WO.val (PO.move rfl) rfl ?_
              refine WO.val (PO.move rfl) rfl ?_
              refine WO.val (PO.lookup1 (a := x9) (z := 0) 5 int_key rfl rfl Tryz.runUnderlying86 Tryz.zeroValue3 rfl) rfl ?_
              refine WO.val (PO.add rfl rfl) rfl ?_
              refine WO.step (SO.of rfl (EO.mapUpdate (a := x9) (b := (IntKind.i64.wrap (((mget (mput c7_2 x9 (maxI ((mget c7_2 x9).getD 0) ((mget c7_2 x10.1.C).getD 0))) x9).getD 0) + 1))) 5 _ int_key rfl rfl rfl Tryz.runUnderlying86 rfl rfl)) rfl ?_
              rintro _ _ rfl
              refine WO.toL [stAt p0 S, F, slc 3 1 (.slice (some ⟨b1, 0, none⟩) 1 1) ([s]).length (fl ic ([s])), slc 3 1 v3 x2.1.length (fl ic x2.1), mapAt iv uv b5 (mput (mput c7_1 x9 1) x9 x25), mapAt iv iv b6 (mput (mput c7_2 x9 (maxI ((mget c7_2 x9).getD 0) ((mget c7_2 x10.1.C).getD 0))) x9 (IntKind.i64.wrap (((mget (mput c7_2 x9 (maxI ((mget c7_2 x9).getD 0) ((mget c7_2 x10.1.C).getD 0))) x9).getD 0) + 1))), pt b11 (.cells #[.int .i64 x10.1.Op, .int .i64 x10.1.W, .int .i64 x10.1.A, .int .i64 x10.1.B, .int .i64 x10.1.C, .int .u64 x10.1.Num, .string x10.1.Name] 45 (0, 0))] rfl ?_
              refine WO.nil ?_
              refine WP.region ?_
              refine WO.val (PO.add rfl rfl) rfl ?_
              refine WO.val (PO.move rfl) rfl ?_
              refine WO.nil ?_
              exact ⟨c7_k, _, Nat.lt_succ_self _, ⟨(IntKind.i64.wrap (c7_0 + 1)), (mput (mput c7_1 x9 1) x9 x25), (mput (mput c7_2 x9 (maxI ((mget c7_2 x9).getD 0) ((mget c7_2 x10.1.C).getD 0))) x9 (IntKind.i64.wrap (((mget (mput c7_2 x9 (maxI ((mget c7_2 x9).getD 0) ((mget c7_2 x10.1.C).getD 0))) x9).getD 0) + 1))), ⟨rfl, rfl, rfl, rfl, rfl, rfl, rfl, rfl, rfl, rfl, rfl, rfl, trivial⟩, rfl, hs⟩, fun _ s => s.pre⟩
            · replace hs := cond_f h24 hs
              refine WP.skip ?_
              refine WP.region ?_
              refine WO.val (PO.addK (c := 3) rfl rfl (by decide)) rfl ?_
              refine WO.val (PO.move rfl) rfl ?_
              refine WO.nil ?_
              refine WPR.succ ?_
              refine WP.seq ?_
              refine WP.region ?_
              refine WO.val (PO.lss rfl rfl) rfl ?_
              refine WO.nil ?_
              refine WP.seq ?_
              refine WP.condF rfl ?_
              refine WP.exit (inX.hit ?_)
              refine WP.region ?_
              refine WO.val (PO.move rfl) rfl ?_
              refine WO.val (PO.move rfl) rfl ?_
              refine WO.val (PO.lookup1 (a := x9) (z := 0) 5 int_key rfl rfl Tryz.runUnderlying86 Tryz.zeroValue3 rfl) rfl ?_
              refine WO.val (PO.add rfl rfl) rfl ?_
              refine WO.step (SO.of rfl (EO.mapUpdate (a := x9) (b := (IntKind.i64.wrap (((mget c7_2 x9).getD 0) + 1))) 5 _ int_key rfl rfl rfl Tryz.runUnderlying86 rfl rfl)) rfl ?_
              rintro _ _ rfl
              refine WO.toL [stAt p0 S, F, slc 3 1 (.slice (some ⟨b1, 0, none⟩) 1 1) ([s]).length (fl ic ([s])), slc 3 1 v3 x2.1.length (fl ic x2.1), mapAt iv uv b5 (mput c7_1 x9 1), mapAt iv iv b6 (mput c7_2 x9 (IntKind.i64.wrap (((mget c7_2 x9).getD 0) + 1))), pt b11 (.cells #[.int .i64 x10.1.Op, .int .i64 x10.1.W, .int .i64 x10.1.A, .int .i64 x10.1.B, .int .i64 x10.1.C, .int .u64 x10.1.Num, .string x10.1.Name] 45 (0, 0))] rfl ?_
              refine WO.nil ?_
              refine WP.region ?_
              refine WO.val (PO.add rfl rfl) rfl ?_
              refine WO.val (PO.move rfl) rfl ?_
              refine WO.nil ?_
              exact ⟨c7_k, _, Nat.lt_succ_self _, ⟨(IntKind.i64.wrap (c7_0 + 1)), (mput c7_1 x9 1), (mput c7_2 x9 (IntKind.i64.wrap (((mget c7_2 x9).getD 0) + 1))), ⟨rfl, rfl, rfl, rfl, rfl, rfl, rfl, rfl, rfl, rfl, rfl, rfl, trivial⟩, rfl, hs⟩, fun _ s => s.pre⟩
      · replace hs := cond_f h8 hs
        refine WP.exit (inX.hit ?_)
        refine WP.seq ?_
        refine WP.draw (γ := Unit) Tryz.mixedEv [some 86, some 87, some 88, some 89, some 90, some 91, some 92, some 93, some 4, some 5, some 6, some 7] rfl [(1, .int .i64 s), (8, v3), (10, .map (some b5)), (11, .map (some b6))] ⟨rfl, rfl, rfl, rfl, trivial⟩ (fun g26 => [v3, .int .i64 (x2.1.length : Int), .map (some b5), .int .i64 s, .int .u64 ((mget c7_1 s).getD 0), .map (some b6), .int .i64 s, .int .i64 ((mget c7_2 s).getD 0), .int .i64 (x2.1.length : Int), .int .u64 ((mget c7_1 s).getD 0), .int .i64 ((mget c7_2 s).getD 0), .int .i64 0]) [⟨[], 0, 0, false⟩, ⟨[0], 0, 0, false⟩, ⟨[], 0, 0, false⟩, ⟨[], 0, 0, false⟩, ⟨[2, 3], 0, 0, false⟩, ⟨[], 0, 0, false⟩, ⟨[], 0, 0, false⟩, ⟨[5, 6], 0, 0, false⟩, ⟨[1, 1], 0, 0, false⟩, ⟨[4, 4], 0, 0, false⟩, ⟨[7, 7], 0, 0, false⟩, ⟨[], 0, 0, false⟩] [] (fun g26 => [[stAt p0 S, F, slc 3 1 (.slice (some ⟨b1, 0, none⟩) 1 1) ([s]).length (fl ic ([s])), slc 3 1 v3 x2.1.length (fl ic x2.1), mapAt iv uv b5 c7_1, mapAt iv iv b6 c7_2]]) rfl rfl rfl ⟨(fun g26 => SO.at (SO.val (PO.move rfl) rfl) rfl rfl), (fun g26 => SO.at (SO.val (PO.lenL 3 rfl Tryz.runUnderlying24 rfl) rfl) rfl rfl), (fun g26 => SO.at (SO.val (PO.move rfl) rfl) rfl rfl), (fun g26 => SO.at (SO.val (PO.move rfl) rfl) rfl rfl), (fun g26 => SO.at (SO.val (PO.lookup1 (a := s) (z := 0) 4 int_key rfl rfl Tryz.runUnderlying85 Tryz.zeroValue33 rfl) rfl) rfl rfl), (fun g26 => SO.at (SO.val (PO.move rfl) rfl) rfl rfl), (fun g26 => SO.at (SO.val (PO.move rfl) rfl) rfl rfl), (fun g26 => SO.at (SO.val (PO.lookup1 (a := s) (z := 0) 5 int_key rfl rfl Tryz.runUnderlying86 Tryz.zeroValue3 rfl) rfl) rfl rfl), (fun g26 => SO.at (SO.val (PO.assign rfl) rfl) rfl rfl), (fun g26 => SO.at (SO.val (PO.assign rfl) rfl) rfl rfl), (fun g26 => SO.at (SO.val (PO.assign rfl) rfl) rfl rfl), (fun g26 => SO.at (SO.val (PO.assign rfl) rfl) rfl rfl), trivial⟩ (fun g26 => [stAt p0 S, F, slc 3 1 (.slice (some ⟨b1, 0, none⟩) 1 1) ([s]).length (fl ic ([s])), slc 3 1 v3 x2.1.length (fl ic x2.1), mapAt iv uv b5 c7_1, mapAt iv iv b6 c7_2]) (fun _ => rfl) (fun g26 => [(86, v3), (87, .int .i64 (x2.1.length : Int)), (88, .map (some b5)), (89, .int .i64 s), (90, .int .u64 ((mget c7_1 s).getD 0)), (91, .map (some b6)), (92, .int .i64 s), (93, .int .i64 ((mget c7_2 s).getD 0)), (4, .int .i64 (x2.1.length : Int)), (5, .int .u64 ((mget c7_1 s).getD 0)), (6, .int .i64 ((mget c7_2 s).getD 0)), (7, .int .i64 0), (1, .int .i64 s), (8, v3), (10, .map (some b5)), (11, .map (some b6))]) (fun _ => rfl) (fun g26 => ?_)
        refine WP.ret ?_
        obtain rfl := Option.some.inj hs
        exact ⟨_, _, _, Res.four (RV.tmp rfl) (RV.tmp rfl) (RV.tmp rfl) (RV.tmp rfl), ⟨rfl, rfl⟩, fun _ s => s⟩
attribute [irreducible] s_Ev_Size

end Go.Proofs.YtlnionilhagenaaGreatDoor
