/- Printed by gen.py (my own program): Lean functions with the answers of the Go functions, and the proofs that the code comes to them. -/
import Derived.Test.YtlnionilhagenaaGreatDoorStore
namespace Go.Proofs.YtlnionilhagenaaGreatDoor
open Go.RowKit
set_option linter.all false
set_option maxRecDepth 100000
set_option maxHeartbeats 4000000
theorem Tryz.mixedOrder : Tryz.prog.follows .mixedOrders = true := by kernel_rfl

/- cadence/term.New -/
def s_New (limit : Int) : Option (St × Int) :=
  cond (decide (limit < 0))
    (none)
    (some ((⟨limit, [], [], []⟩ : St), 0))
theorem t_New {limit : Int} {r : St × Int}
    (hs : s_New limit = some r) :
    TriX Tryz.prog 20 [.int .i64 limit] [] (.ok r) faultV (fun (a_ : St × Int) (c : Nat) => .tuple #[.pointer (some ⟨c, 0, none⟩), .int .i64 a_.2]) (fun a_ c => [stAt c a_.1]) := by
  unfold s_New at hs
  refine TriX.of Tryz.func20 rfl Tryz.ntmps20 Tryz.results20 rfl (fun w0 F => ?_)
  refine WP.seq ?_
  refine WP.region ?_
  refine WO.val (PO.assign rfl) rfl ?_
  refine WO.val (PO.assign rfl) rfl ?_
  refine WO.nil ?_
  refine WP.seq ?_
  refine WP.seq ?_
  refine WP.region ?_
  refine WO.val (PO.move rfl) rfl ?_
  refine WO.val (PO.lss rfl rfl) rfl ?_
  refine WO.nil ?_
  refine WP.cond rfl (fun h1 => ?_) (fun h1 => ?_)
  · replace hs := cond_t h1 hs
    refine WP.seq ?_
    refine WP.region ?_
    refine WO.val (PO.assign rfl) rfl ?_
    refine WO.val (PO.assign rfl) rfl ?_
    refine WO.nil ?_
    refine WP.ret ?_
    cases hs
  · replace hs := cond_f h1 hs
    refine WP.skip ?_
    refine WP.seq ?_
    refine WP.region ?_
    refine WO.val (PO.move rfl) rfl ?_
    refine WO.step (SO.of rfl (EO.makeMap (kv := Nd.val) (vv := iv))) rfl ?_
    rintro _ _ ⟨b2, rfl, rfl⟩
    refine WO.toL [F, mapAt Nd.val iv b2 ([])] rfl ?_
    refine WO.step (SO.of rfl (EO.makeMap (kv := sv) (vv := iv))) rfl ?_
    rintro _ _ ⟨b3, rfl, rfl⟩
    refine WO.toL [F, mapAt Nd.val iv b2 ([]), mapAt sv iv b3 ([])] rfl ?_
    refine WO.val (PO.build (v := .agg #[.int .i64 limit, .slice none 0 0, .map (some b2), .map (some b3)]) rfl (fun w => by simp [Instr.build, Instr.fill, Value.cells, addr_add', Tryz.zeroValue80, Tryz.runUnderlying80, Tryz.sizeOf3, Tryz.sizeOf69, Tryz.sizeOf77, Tryz.sizeOf78])) rfl ?_
    refine WO.step (SO.of rfl (EO.box rfl)) rfl ?_
    rintro _ _ ⟨b4, rfl, rfl⟩
    refine WO.toL [F, mapAt Nd.val iv b2 ([]), mapAt sv iv b3 ([]), pt b4 (.cells #[.int .i64 limit, .slice none 0 0, .map (some b2), .map (some b3)] 80 (0, 0))] rfl ?_
    refine WO.val (PO.assign rfl) rfl ?_
    refine WO.val (PO.assign rfl) rfl ?_
    refine WO.nil ?_
    refine WP.ret ?_
    obtain rfl := Option.some.inj hs
    exact ⟨_, b4, _, _, rfl, Res.two (RV.tmp rfl) (RV.tmp rfl), rfl, fun _ s => stAt_new (Sat.out [3, 1, 2, 0] (B := [_, _, _]) rfl s)⟩
attribute [irreducible] s_New

/- (*cadence/term.Store).Order -/
def s_St_Order_l4 (S : St) (c12_0 : Int) (rec_s_St_Order_l3 : Int → (List Int) → (List Bool) → (List Pl) → Option ((List Int) × Int)) : Nat → (List Int) → (List Pl) → (List Bool) → Option ((List Int) × Int)
  | 0, _, _, _ => none
  | c21_k + 1, c21_1, c21_3, c21_4 =>
    cond (decide (0 < (c21_3.length : Int)))
      ((getI c21_3 (IntKind.i64.wrap ((c21_3.length : Int) - 1))).bind fun x23 =>
      (getI S.all (IntKind.i64.wrap (x23.t - 1))).bind fun x25 =>
      lt (s_parts x25.Op) fun x27 =>
      cond (x23.next == x27)
        (if (c21_1.length + 1) * 8 ≤ 140737488355328 then (if 0 ≤ (IntKind.i64.wrap ((c21_3.length : Int) - 1)) ∧ (IntKind.i64.wrap ((c21_3.length : Int) - 1)) ≤ (c21_3.length : Int) then (s_St_Order_l4 S c12_0 rec_s_St_Order_l3 c21_k (c21_1 ++ [x23.t]) (c21_3.take (IntKind.i64.wrap ((c21_3.length : Int) - 1)).toNat) c21_4) else none) else none)
        ((getI [x25.A, x25.B, x25.C] x23.next).bind fun x34 =>
        (getI c21_4 x34).bind fun x35 =>
        cond (!x35)
          ((getI c21_4 x34).bind fun x37 =>
          if ((c21_3.set (IntKind.i64.wrap ((c21_3.length : Int) - 1)).toNat (⟨x23.t, (IntKind.i64.wrap (x23.next + 1))⟩ : Pl)).length + 1) * 16 ≤ 140737488355328 then (s_St_Order_l4 S c12_0 rec_s_St_Order_l3 c21_k c21_1 ((c21_3.set (IntKind.i64.wrap ((c21_3.length : Int) - 1)).toNat (⟨x23.t, (IntKind.i64.wrap (x23.next + 1))⟩ : Pl)) ++ [(⟨x34, 0⟩ : Pl)]) (c21_4.set x34.toNat true)) else none)
          (s_St_Order_l4 S c12_0 rec_s_St_Order_l3 c21_k c21_1 (c21_3.set (IntKind.i64.wrap ((c21_3.length : Int) - 1)).toNat (⟨x23.t, (IntKind.i64.wrap (x23.next + 1))⟩ : Pl)) c21_4)))
      (rec_s_St_Order_l3 (IntKind.i64.wrap (c12_0 + 1)) c21_1 c21_4 c21_3)
def s_St_Order_l3 (S : St) (s : List Int) (k : Nat) : Nat → Int → (List Int) → (List Bool) → (List Pl) → Option ((List Int) × Int)
  | 0, _, _, _, _ => none
  | c12_k + 1, c12_0, c12_2, c12_3, c12_5 =>
    cond (decide (c12_0 < (s.length : Int)))
      ((getI s c12_0).bind fun x14 =>
      (getI c12_3 x14).bind fun x15 =>
      cond x15
        (s_St_Order_l3 S s k c12_k (IntKind.i64.wrap (c12_0 + 1)) c12_2 c12_3 c12_5)
        ((getI c12_3 x14).bind fun x17 =>
        if (c12_5.length + 1) * 16 ≤ 140737488355328 then (s_St_Order_l4 S c12_0 (s_St_Order_l3 S s k c12_k) k c12_2 (c12_5 ++ [(⟨x14, 0⟩ : Pl)]) (c12_3.set x14.toNat true)) else none))
      (some (c12_2, 0))
def s_St_Order_l0 (S : St) (s : List Int) (k : Nat) : Nat → Int → Option ((List Int) × Int)
  | 0, _ => none
  | c2_k + 1, c2_0 =>
    cond (decide (c2_0 < (s.length : Int)))
      ((getI s c2_0).bind fun x4 =>
      lt (s_St_is S x4) fun x5 =>
      cond (!x5)
        (some (([] : List Int), 70))
        (s_St_Order_l0 S s k c2_k (IntKind.i64.wrap (c2_0 + 1))))
      (if 0 ≤ (IntKind.i64.wrap ((S.all.length : Int) + 1)) ∧ (IntKind.i64.wrap ((S.all.length : Int) + 1)) ≤ (IntKind.i64.wrap ((S.all.length : Int) + 1)) ∧ (IntKind.i64.wrap ((S.all.length : Int) + 1)) * 1 ≤ 140737488355328 then (s_St_Order_l3 S s k k 0 ([] : List Int) (List.replicate (IntKind.i64.wrap ((S.all.length : Int) + 1)).toNat (false : Bool)) ([] : List Pl)) else none)
def s_St_Order (k : Nat) (S : St) (s : List Int) : Option ((List Int) × Int) :=
  s_St_Order_l0 S s k k 0
theorem t_St_Order {k : Nat} {p0 : Nat} {v_1 : Value} {S : St} {s : List Int} {r : (List Int) × Int}
    (hs : s_St_Order k S s = some r) :
    TriX Tryz.prog 26 [.pointer (some ⟨p0, 0, none⟩), v_1] [stAt p0 S, slc 3 1 v_1 s.length (fl ic s)] (.ok r) faultV (fun (a_ : (List Int) × Int) (c : Value) => .tuple #[c, .int .i64 a_.2]) (fun a_ c => [stAt p0 S, slc 3 1 v_1 s.length (fl ic s), slc 3 1 c a_.1.length (fl ic a_.1)]) := by
  unfold s_St_Order at hs
  refine TriX.of Tryz.func26 rfl Tryz.ntmps26 Tryz.results26 rfl (fun w0 F => ?_)
  refine WP.seq ?_
  refine WP.region ?_
  refine WO.heap [stAt p0 S, slc 3 1 v_1 s.length (fl ic s), F, slc 3 1 (nils 1) ([] : List Int).length (fl ic ([] : List Int))] (fun _ s => s.addNil 3 1 1) ?_
  refine WO.val (PO.assign (v := (nils 1)) rfl) rfl ?_
  refine WO.val (PO.assign rfl) rfl ?_
  refine WO.nil ?_
  refine WP.seq ?_
  refine WP.seq ?_
  refine WP.region ?_
  refine WO.val (PO.move rfl) rfl ?_
  refine WO.val (PO.lenL 1 rfl Tryz.runUnderlying24 rfl) rfl ?_
  refine WO.val (PO.move rfl) rfl ?_
  refine WO.nil ?_
  refine WP.block ?_
  refine WP.loopG (fun c2_k f_ L_ => ∃ (c2_0 : Int), Holds f_ [(0, .pointer (some ⟨p0, 0, none⟩)), (1, v_1), (4, (nils 1)), (5, .int .i64 0), (16, v_1), (17, .int .i64 (s.length : Int)), (18, .int .i64 c2_0)] ∧ L_ = [stAt p0 S, slc 3 1 v_1 s.length (fl ic s), F, slc 3 1 (nils 1) ([] : List Int).length (fl ic ([] : List Int))] ∧ s_St_Order_l0 S s k c2_k c2_0 = some r) k ⟨0, ⟨rfl, rfl, rfl, rfl, rfl, rfl, rfl, trivial⟩, rfl, hs⟩ ?_
  rintro c2_k f_ L_ ⟨c2_0, hf_, rfl, hs⟩
  refine WP.keep [(0, .pointer (some ⟨p0, 0, none⟩)), (1, v_1), (4, (nils 1)), (5, .int .i64 0), (16, v_1), (17, .int .i64 (s.length : Int)), (18, .int .i64 c2_0)] hf_ ?_
  cases c2_k with
  | zero => exact nomatch (show none = some r from hs)
  | succ c2_k =>
    rw [s_St_Order_l0.eq_2] at hs
    refine WP.seq ?_
    refine WP.region ?_
    refine WO.val (PO.lss rfl rfl) rfl ?_
    refine WO.nil ?_
    refine WP.seq ?_
    refine WP.cond rfl (fun h3 => ?_) (fun h3 => ?_)
    · replace hs := cond_t h3 hs
      refine WP.skip ?_
      refine WP.seq ?_
      refine WP.block ?_
      refine WP.seq ?_
      refine WP.region ?_
      obtain ⟨x4, hx4, hs⟩ := bind_elim hs
      refine WO.val (PO.idxL 1 rfl rfl Tryz.runUnderlying24 Tryz.sizeOf3 rfl hx4) rfl ?_
      refine WO.val (PO.loadL 1 rfl Tryz.isAgg3 rfl (fl_at (c := ic) (k := 1) (j := 0) (fun _ => rfl) hx4 rfl)) rfl ?_
      refine WO.val (PO.assign rfl) rfl ?_
      refine WO.nil ?_
      refine WP.seq ?_
      refine WP.region ?_
      refine WO.val (PO.move rfl) rfl ?_
      refine WO.val (PO.move rfl) rfl ?_
      obtain ⟨x5, hx5, hs⟩ := lt_elim hs
      refine WO.vo (VO.call1 0 Tryz.call32 rfl rfl (t_St_is hx5)) rfl ?_
      refine WO.val (PO.not rfl) rfl ?_
      refine WO.nil ?_
      refine WP.cond rfl (fun h6 => ?_) (fun h6 => ?_)
      · replace hs := cond_t h6 hs
        refine WP.seq ?_
        refine WP.region ?_
        refine WO.heap [stAt p0 S, slc 3 1 v_1 s.length (fl ic s), F, slc 3 1 (nils 1) ([] : List Int).length (fl ic ([] : List Int)), slc 3 1 (nils 7) ([] : List Int).length (fl ic ([] : List Int))] (fun _ s => s.addNil 3 1 7) ?_
        refine WO.val (PO.assign (v := (nils 7)) rfl) rfl ?_
        refine WO.val (PO.assign rfl) rfl ?_
        refine WO.nil ?_
        refine WP.ret ?_
        obtain rfl := Option.some.inj hs
        exact ⟨_, (nils 7), _, _, rfl, Res.two (RV.tmp rfl) (RV.tmp rfl), rfl, fun _ s => Sat.out [0, 1, 4, 2] rfl s⟩
      · replace hs := cond_f h6 hs
        refine WP.skip ?_
        refine WP.region ?_
        refine WO.val (PO.add rfl rfl) rfl ?_
        refine WO.val (PO.move rfl) rfl ?_
        refine WO.nil ?_
        exact ⟨c2_k, _, Nat.lt_succ_self _, ⟨(IntKind.i64.wrap (c2_0 + 1)), ⟨rfl, rfl, rfl, rfl, rfl, rfl, rfl, trivial⟩, rfl, hs⟩, fun _ s => s.pre⟩
    · replace hs := cond_f h3 hs
      refine WP.exit (inX.hit ?_)
      refine WP.seq ?_
      refine WP.region ?_
      refine WO.heap [stAt p0 S, slc 3 1 v_1 s.length (fl ic s), F, slc 3 1 (nils 1) ([] : List Int).length (fl ic ([] : List Int)), slc 3 1 (nils 8) ([] : List Int).length (fl ic ([] : List Int))] (fun _ s => s.addNil 3 1 8) ?_
      refine WO.val (PO.assign (v := (nils 8)) rfl) rfl ?_
      refine WO.nil ?_
      refine WP.seq ?_
      refine WP.openSt (fun v0 mf0 mn0 => ?_)
      refine WP.region ?_
      refine WO.val (PO.move rfl) rfl ?_
      refine WO.val (PO.nilCheck rfl) rfl ?_
      refine WO.val (PO.fieldAddr rfl Tryz.runUnderlying80 rfl Tryz.sizeOf77 rfl) rfl ?_
      refine WO.val (PO.load 0 rfl Tryz.isAgg77 rfl rfl) rfl ?_
      refine WO.val (PO.lenL 1 rfl Tryz.runUnderlying77 rfl) rfl ?_
      refine WO.val (PO.add rfl rfl) rfl ?_
      obtain ⟨hc9, hs⟩ := check_elim hs
      refine WO.step (SO.of rfl (EO.makeL (c := bc) (a := false) (fun _ => rfl) Tryz.typeInfo4 rfl rfl rfl Tryz.underlying113 rfl rfl rfl rfl rfl hc9)) rfl ?_
      rintro v10 _ rfl
      refine WO.toL [pt p0 (.cells #[.int .i64 S.limit, v0, .map (some mf0), .map (some mn0)] 80 (0, 0)), slc 45 7 v0 S.all.length (fl Nd.cells S.all), mapAt Nd.val iv mf0 S.found, mapAt sv iv mn0 S.names, slc 3 1 v_1 s.length (fl ic s), F, slc 3 1 (nils 1) ([] : List Int).length (fl ic ([] : List Int)), slc 3 1 (nils 8) ([] : List Int).length (fl ic ([] : List Int)), slc 4 1 v10 (List.replicate (IntKind.i64.wrap ((S.all.length : Int) + 1)).toNat (false : Bool)).length (fl bc (List.replicate (IntKind.i64.wrap ((S.all.length : Int) + 1)).toNat (false : Bool)))] rfl ?_
      refine WO.val (PO.assign rfl) rfl ?_
      refine WO.nil ?_
      refine WP.seq ?_
      refine WP.region ?_
      refine WO.heap [pt p0 (.cells #[.int .i64 S.limit, v0, .map (some mf0), .map (some mn0)] 80 (0, 0)), slc 45 7 v0 S.all.length (fl Nd.cells S.all), mapAt Nd.val iv mf0 S.found, mapAt sv iv mn0 S.names, slc 3 1 v_1 s.length (fl ic s), F, slc 3 1 (nils 1) ([] : List Int).length (fl ic ([] : List Int)), slc 3 1 (nils 8) ([] : List Int).length (fl ic ([] : List Int)), slc 4 1 v10 (List.replicate (IntKind.i64.wrap ((S.all.length : Int) + 1)).toNat (false : Bool)).length (fl bc (List.replicate (IntKind.i64.wrap ((S.all.length : Int) + 1)).toNat (false : Bool))), slc 116 2 (nils 11) ([] : List Pl).length (fl Pl.cells ([] : List Pl))] (fun _ s => s.addNil 116 2 11) ?_
      refine WO.val (PO.assign (v := (nils 11)) rfl) rfl ?_
      refine WO.nil ?_
      refine WP.seq ?_
      refine WP.seq ?_
      refine WP.region ?_
      refine WO.val (PO.move rfl) rfl ?_
      refine WO.val (PO.lenL 4 rfl Tryz.runUnderlying24 rfl) rfl ?_
      refine WO.val (PO.move rfl) rfl ?_
      refine WO.nil ?_
      refine WP.block ?_
      refine WP.loopG (fun c12_k f_ L_ => ∃ (c12_0 : Int) (c12_1 : Value) (c12_2 : List Int) (c12_3 : List Bool) (c12_4 : Value) (c12_5 : List Pl), Holds f_ [(0, .pointer (some ⟨p0, 0, none⟩)), (4, (nils 1)), (5, .int .i64 0), (8, c12_1), (9, v10), (10, c12_4), (34, v_1), (35, .int .i64 (s.length : Int)), (36, .int .i64 c12_0)] ∧ L_ = [pt p0 (.cells #[.int .i64 S.limit, v0, .map (some mf0), .map (some mn0)] 80 (0, 0)), slc 45 7 v0 S.all.length (fl Nd.cells S.all), mapAt Nd.val iv mf0 S.found, mapAt sv iv mn0 S.names, slc 3 1 v_1 s.length (fl ic s), F, slc 3 1 (nils 1) ([] : List Int).length (fl ic ([] : List Int)), slc 3 1 c12_1 c12_2.length (fl ic c12_2), slc 4 1 v10 c12_3.length (fl bc c12_3), slc 116 2 c12_4 c12_5.length (fl Pl.cells c12_5)] ∧ s_St_Order_l3 S s k c12_k c12_0 c12_2 c12_3 c12_5 = some r) k ⟨0, (nils 8), ([] : List Int), (List.replicate (IntKind.i64.wrap ((S.all.length : Int) + 1)).toNat (false : Bool)), (nils 11), ([] : List Pl), ⟨rfl, rfl, rfl, rfl, rfl, rfl, rfl, rfl, rfl, trivial⟩, rfl, hs⟩ ?_
      rintro c12_k f_ L_ ⟨c12_0, c12_1, c12_2, c12_3, c12_4, c12_5, hf_, rfl, hs⟩
      refine WP.keep [(0, .pointer (some ⟨p0, 0, none⟩)), (4, (nils 1)), (5, .int .i64 0), (8, c12_1), (9, v10), (10, c12_4), (34, v_1), (35, .int .i64 (s.length : Int)), (36, .int .i64 c12_0)] hf_ ?_
      cases c12_k with
      | zero => exact nomatch (show none = some r from hs)
      | succ c12_k =>
        rw [s_St_Order_l3.eq_2] at hs
        refine WP.seq ?_
        refine WP.region ?_
        refine WO.val (PO.lss rfl rfl) rfl ?_
        refine WO.nil ?_
        refine WP.seq ?_
        refine WP.cond rfl (fun h13 => ?_) (fun h13 => ?_)
        · replace hs := cond_t h13 hs
          refine WP.skip ?_
          refine WP.seq ?_
          refine WP.block ?_
          refine WP.seq ?_
          refine WP.region ?_
          obtain ⟨x14, hx14, hs⟩ := bind_elim hs
          refine WO.val (PO.idxL 4 rfl rfl Tryz.runUnderlying24 Tryz.sizeOf3 rfl hx14) rfl ?_
          refine WO.val (PO.loadL 4 rfl Tryz.isAgg3 rfl (fl_at (c := ic) (k := 1) (j := 0) (fun _ => rfl) hx14 rfl)) rfl ?_
          refine WO.val (PO.assign rfl) rfl ?_
          refine WO.nil ?_
          refine WP.seq ?_
          refine WP.seq ?_
          refine WP.region ?_
          refine WO.val (PO.move rfl) rfl ?_
          refine WO.val (PO.move rfl) rfl ?_
          obtain ⟨x15, hx15, hs⟩ := bind_elim hs
          refine WO.val (PO.idxL 8 rfl rfl Tryz.runUnderlying113 Tryz.sizeOf4 rfl hx15) rfl ?_
          refine WO.val (PO.loadL 8 rfl Tryz.isAgg4 rfl (fl_at (c := bc) (k := 1) (j := 0) (fun _ => rfl) hx15 rfl)) rfl ?_
          refine WO.nil ?_
          refine WP.cond rfl (fun h16 => ?_) (fun h16 => ?_)
          · replace hs := cond_t h16 hs
            refine WP.exit (inX.hit ?_)
            refine WP.region ?_
            refine WO.val (PO.add rfl rfl) rfl ?_
            refine WO.val (PO.move rfl) rfl ?_
            refine WO.nil ?_
            exact ⟨c12_k, _, Nat.lt_succ_self _, ⟨(IntKind.i64.wrap (c12_0 + 1)), c12_1, c12_2, c12_3, c12_4, c12_5, ⟨rfl, rfl, rfl, rfl, rfl, rfl, rfl, rfl, rfl, trivial⟩, rfl, hs⟩, fun _ s => s.pre⟩
          · replace hs := cond_f h16 hs
            refine WP.skip ?_
            refine WP.seq ?_
            refine WP.region ?_
            refine WO.val (PO.move rfl) rfl ?_
            refine WO.val (PO.move rfl) rfl ?_
            obtain ⟨x17, hx17, hs⟩ := bind_elim hs
            refine WO.val (PO.idxL 8 rfl rfl Tryz.runUnderlying113 Tryz.sizeOf4 rfl hx17) rfl ?_
            refine WO.step (SO.of rfl (EO.storeI (c := bc) (a' := true) (j := 0) 8 (fun _ => rfl) rfl rfl Tryz.sizeOf4 rfl hx17 rfl rfl rfl rfl)) rfl ?_
            rintro _ _ rfl
            refine WO.toL [pt p0 (.cells #[.int .i64 S.limit, v0, .map (some mf0), .map (some mn0)] 80 (0, 0)), slc 45 7 v0 S.all.length (fl Nd.cells S.all), mapAt Nd.val iv mf0 S.found, mapAt sv iv mn0 S.names, slc 3 1 v_1 s.length (fl ic s), F, slc 3 1 (nils 1) ([] : List Int).length (fl ic ([] : List Int)), slc 3 1 c12_1 c12_2.length (fl ic c12_2), slc 4 1 v10 (c12_3.set x14.toNat true).length (fl bc (c12_3.set x14.toNat true)), slc 116 2 c12_4 c12_5.length (fl Pl.cells c12_5)] rfl ?_
            refine WO.nil ?_
            refine WP.seq ?_
            refine WP.region ?_
            refine WO.val (PO.move rfl) rfl ?_
            refine WO.val (PO.move rfl) rfl ?_
            refine WO.val (PO.build (v := .agg #[.int .i64 x14, .int .i64 0]) rfl (fun w => by simp [Instr.build, Instr.fill, Value.cells, addr_add', Tryz.zeroValue116, Tryz.runUnderlying116, Tryz.sizeOf3])) rfl ?_
            refine WO.step (SO.of rfl (EO.buildSlice1 rfl Tryz.runUnderlying114 Tryz.sizeOf116 Tryz.zeroValue116 rfl rfl rfl rfl)) rfl ?_
            rintro _ _ ⟨b18, rfl, rfl⟩
            refine WO.toL [pt p0 (.cells #[.int .i64 S.limit, v0, .map (some mf0), .map (some mn0)] 80 (0, 0)), slc 45 7 v0 S.all.length (fl Nd.cells S.all), mapAt Nd.val iv mf0 S.found, mapAt sv iv mn0 S.names, slc 3 1 v_1 s.length (fl ic s), F, slc 3 1 (nils 1) ([] : List Int).length (fl ic ([] : List Int)), slc 3 1 c12_1 c12_2.length (fl ic c12_2), slc 4 1 v10 (c12_3.set x14.toNat true).length (fl bc (c12_3.set x14.toNat true)), slc 116 2 c12_4 c12_5.length (fl Pl.cells c12_5), pt b18 (.cells #[.int .i64 x14, .int .i64 0] 116 (0, 0))] rfl ?_
            obtain ⟨hc19, hs⟩ := check_elim hs
            refine WO.step (SO.of rfl (EO.appendL (c := Pl.cells) (a := (⟨x14, 0⟩ : Pl)) 9 10 (fun _ => rfl) Tryz.typeInfo116 rfl rfl rfl rfl Tryz.runUnderlying114 Tryz.underlying114 rfl rfl rfl rfl rfl rfl rfl rfl hc19)) rfl ?_
            rintro v20 _ rfl
            refine WO.toL [pt p0 (.cells #[.int .i64 S.limit, v0, .map (some mf0), .map (some mn0)] 80 (0, 0)), slc 45 7 v0 S.all.length (fl Nd.cells S.all), mapAt Nd.val iv mf0 S.found, mapAt sv iv mn0 S.names, slc 3 1 v_1 s.length (fl ic s), F, slc 3 1 (nils 1) ([] : List Int).length (fl ic ([] : List Int)), slc 3 1 c12_1 c12_2.length (fl ic c12_2), slc 4 1 v10 (c12_3.set x14.toNat true).length (fl bc (c12_3.set x14.toNat true)), slc 116 2 v20 (c12_5 ++ [(⟨x14, 0⟩ : Pl)]).length (fl Pl.cells (c12_5 ++ [(⟨x14, 0⟩ : Pl)])), pt b18 (.cells #[.int .i64 x14, .int .i64 0] 116 (0, 0))] rfl ?_
            refine WO.val (PO.assign rfl) rfl ?_
            refine WO.nil ?_
            refine WP.block ?_
            refine WP.loopG (fun c21_k f_ L_ => ∃ (c21_0 : Value) (c21_1 : List Int) (c21_2 : Value) (c21_3 : List Pl) (c21_4 : List Bool), Holds f_ [(0, .pointer (some ⟨p0, 0, none⟩)), (4, (nils 1)), (5, .int .i64 0), (8, c21_0), (9, v10), (10, c21_2), (34, v_1), (35, .int .i64 (s.length : Int)), (36, .int .i64 c12_0)] ∧ L_ = [pt p0 (.cells #[.int .i64 S.limit, v0, .map (some mf0), .map (some mn0)] 80 (0, 0)), slc 45 7 v0 S.all.length (fl Nd.cells S.all), mapAt Nd.val iv mf0 S.found, mapAt sv iv mn0 S.names, slc 3 1 v_1 s.length (fl ic s), F, slc 3 1 (nils 1) ([] : List Int).length (fl ic ([] : List Int)), slc 3 1 c21_0 c21_1.length (fl ic c21_1), slc 4 1 v10 c21_4.length (fl bc c21_4), slc 116 2 c21_2 c21_3.length (fl Pl.cells c21_3), pt b18 (.cells #[.int .i64 x14, .int .i64 0] 116 (0, 0))] ∧ s_St_Order_l4 S c12_0 (s_St_Order_l3 S s k c12_k) c21_k c21_1 c21_3 c21_4 = some r) k ⟨c12_1, c12_2, v20, (c12_5 ++ [(⟨x14, 0⟩ : Pl)]), (c12_3.set x14.toNat true), ⟨rfl, rfl, rfl, rfl, rfl, rfl, rfl, rfl, rfl, trivial⟩, rfl, hs⟩ ?_
            rintro c21_k f_ L_ ⟨c21_0, c21_1, c21_2, c21_3, c21_4, hf_, rfl, hs⟩
            refine WP.keep [(0, .pointer (some ⟨p0, 0, none⟩)), (4, (nils 1)), (5, .int .i64 0), (8, c21_0), (9, v10), (10, c21_2), (34, v_1), (35, .int .i64 (s.length : Int)), (36, .int .i64 c12_0)] hf_ ?_
            cases c21_k with
            | zero => exact nomatch (show none = some r from hs)
            | succ c21_k =>
              rw [s_St_Order_l4.eq_2] at hs
              refine WP.seq ?_
              refine WP.seq ?_
              refine WP.region ?_
              refine WO.val (PO.move rfl) rfl ?_
              refine WO.val (PO.lenL 9 rfl Tryz.runUnderlying114 rfl) rfl ?_
              refine WO.val (PO.gtr rfl rfl) rfl ?_
              refine WO.nil ?_
              refine WP.cond rfl (fun h22 => ?_) (fun h22 => ?_)
              · replace hs := cond_t h22 hs
                refine WP.skip ?_
                refine WP.block ?_
                refine WP.seq ?_
                refine WP.region ?_
                refine WO.val (PO.move rfl) rfl ?_
                refine WO.val (PO.move rfl) rfl ?_
                refine WO.val (PO.lenL 9 rfl Tryz.runUnderlying114 rfl) rfl ?_
                refine WO.val (PO.sub rfl rfl) rfl ?_
                obtain ⟨x23, hx23, hs⟩ := bind_elim hs
                refine WO.val (PO.idxL 9 rfl rfl Tryz.runUnderlying114 Tryz.sizeOf116 rfl hx23) rfl ?_
                refine WO.val (PO.assign rfl) rfl ?_
                refine WO.nil ?_
                refine WP.seq ?_
                obtain ⟨x25, hx25, hs⟩ := bind_elim hs
                refine WP.draw (γ := Nat) Tryz.mixedOrder [some 60, some 61, some 62, some 63, some 64, some 65, some 66, some 67, some 68, some 69, some 70, some 14, none] rfl [(0, .pointer (some ⟨p0, 0, none⟩)), (4, (nils 1)), (5, .int .i64 0), (8, c21_0), (9, v10), (10, c21_2), (34, v_1), (35, .int .i64 (s.length : Int)), (36, .int .i64 c12_0), (13, .pointer (some ⟨blk c21_2, (IntKind.i64.wrap ((c21_3.length : Int) - 1)).toNat * 2 + 0, none⟩))] ⟨rfl, rfl, rfl, rfl, rfl, rfl, rfl, rfl, rfl, rfl, trivial⟩ (fun g24 => [.pointer (some ⟨p0, 0, none⟩), .pointer (some ⟨p0, 0, none⟩), .pointer (some ⟨p0, 1, none⟩), v0, .pointer (some ⟨blk c21_2, (IntKind.i64.wrap ((c21_3.length : Int) - 1)).toNat * 2 + 0, none⟩), .pointer (some ⟨blk c21_2, (IntKind.i64.wrap ((c21_3.length : Int) - 1)).toNat * 2 + 0, none⟩), .pointer (some ⟨blk c21_2, (IntKind.i64.wrap ((c21_3.length : Int) - 1)).toNat * 2 + 0, none⟩), .int .i64 x23.t, .int .i64 (IntKind.i64.wrap (x23.t - 1)), .pointer (some ⟨blk v0, (IntKind.i64.wrap (x23.t - 1)).toNat * 7 + 0, none⟩), .agg #[.int .i64 x25.Op, .int .i64 x25.W, .int .i64 x25.A, .int .i64 x25.B, .int .i64 x25.C, .int .u64 x25.Num, .string x25.Name], .pointer (some ⟨g24, 0, none⟩), undef]) [⟨[], 0, 1, false⟩, ⟨[0], 0, 1, false⟩, ⟨[1], 0, 1, false⟩, ⟨[2], 0, 1, false⟩, ⟨[], 0, 1, false⟩, ⟨[4], 0, 1, false⟩, ⟨[5], 0, 1, false⟩, ⟨[6], 0, 1, false⟩, ⟨[7], 0, 1, false⟩, ⟨[3, 8], 0, 1, false⟩, ⟨[9], 0, 1, false⟩, ⟨[], 0, 0, true⟩, ⟨[11, 10, 10, 11], 1, 0, true⟩] [11, 12] (fun g24 => [[pt p0 (.cells #[.int .i64 S.limit, v0, .map (some mf0), .map (some mn0)] 80 (0, 0)), slc 45 7 v0 S.all.length (fl Nd.cells S.all), mapAt Nd.val iv mf0 S.found, mapAt sv iv mn0 S.names, slc 3 1 v_1 s.length (fl ic s), F, slc 3 1 (nils 1) ([] : List Int).length (fl ic ([] : List Int)), slc 3 1 c21_0 c21_1.length (fl ic c21_1), slc 4 1 v10 c21_4.length (fl bc c21_4), slc 116 2 c21_2 c21_3.length (fl Pl.cells c21_3), pt b18 (.cells #[.int .i64 x14, .int .i64 0] 116 (0, 0))], [pt p0 (.cells #[.int .i64 S.limit, v0, .map (some mf0), .map (some mn0)] 80 (0, 0)), slc 45 7 v0 S.all.length (fl Nd.cells S.all), mapAt Nd.val iv mf0 S.found, mapAt sv iv mn0 S.names, slc 3 1 v_1 s.length (fl ic s), F, slc 3 1 (nils 1) ([] : List Int).length (fl ic ([] : List Int)), slc 3 1 c21_0 c21_1.length (fl ic c21_1), slc 4 1 v10 c21_4.length (fl bc c21_4), slc 116 2 c21_2 c21_3.length (fl Pl.cells c21_3), pt b18 (.cells #[.int .i64 x14, .int .i64 0] 116 (0, 0)), pt g24 (.cells #[.int .i64 0, .int .i64 0, .int .i64 0, .int .i64 0, .int .i64 0, .int .u64 0, .string (ByteArray.mk #[])] 45 (0, 0))], [pt p0 (.cells #[.int .i64 S.limit, v0, .map (some mf0), .map (some mn0)] 80 (0, 0)), slc 45 7 v0 S.all.length (fl Nd.cells S.all), mapAt Nd.val iv mf0 S.found, mapAt sv iv mn0 S.names, slc 3 1 v_1 s.length (fl ic s), F, slc 3 1 (nils 1) ([] : List Int).length (fl ic ([] : List Int)), slc 3 1 c21_0 c21_1.length (fl ic c21_1), slc 4 1 v10 c21_4.length (fl bc c21_4), slc 116 2 c21_2 c21_3.length (fl Pl.cells c21_3), pt b18 (.cells #[.int .i64 x14, .int .i64 0] 116 (0, 0)), pt g24 (.cells #[.int .i64 x25.Op, .int .i64 x25.W, .int .i64 x25.A, .int .i64 x25.B, .int .i64 x25.C, .int .u64 x25.Num, .string x25.Name] 45 (0, 0))]]) rfl rfl rfl ⟨⟨(fun g24 => SO.at (SO.val (PO.move rfl) rfl) rfl rfl), (fun g24 => SO.at (SO.val (PO.move rfl) rfl) rfl rfl)⟩, ⟨(fun g24 => SO.at (SO.val (PO.nilCheck rfl) rfl) rfl rfl), (fun g24 => SO.at (SO.val (PO.nilCheck rfl) rfl) rfl rfl)⟩, ⟨(fun g24 => SO.at (SO.val (PO.fieldAddr rfl Tryz.runUnderlying80 rfl Tryz.sizeOf77 rfl) rfl) rfl rfl), (fun g24 => SO.at (SO.val (PO.fieldAddr rfl Tryz.runUnderlying80 rfl Tryz.sizeOf77 rfl) rfl) rfl rfl)⟩, ⟨(fun g24 => SO.at (SO.val (PO.load 0 rfl Tryz.isAgg77 rfl rfl) rfl) rfl rfl), (fun g24 => SO.at (SO.val (PO.load 0 rfl Tryz.isAgg77 rfl rfl) rfl) rfl rfl)⟩, ⟨(fun g24 => SO.at (SO.val (PO.move rfl) rfl) rfl rfl), (fun g24 => SO.at (SO.val (PO.move rfl) rfl) rfl rfl)⟩, ⟨(fun g24 => SO.at (SO.val (PO.nilCheck rfl) rfl) rfl rfl), (fun g24 => SO.at (SO.val (PO.nilCheck rfl) rfl) rfl rfl)⟩, ⟨(fun g24 => SO.at (SO.val (PO.fieldAddr rfl Tryz.runUnderlying116 rfl Tryz.sizeOf3 rfl) rfl) rfl rfl), (fun g24 => SO.at (SO.val (PO.fieldAddr rfl Tryz.runUnderlying116 rfl Tryz.sizeOf3 rfl) rfl) rfl rfl)⟩, ⟨(fun g24 => SO.at (SO.val (PO.loadL 9 rfl Tryz.isAgg3 rfl (fl_at (c := Pl.cells) (k := 2) (j := 0) (fun _ => rfl) hx23 rfl)) rfl) rfl rfl), (fun g24 => SO.at (SO.val (PO.loadL 9 rfl Tryz.isAgg3 rfl (fl_at (c := Pl.cells) (k := 2) (j := 0) (fun _ => rfl) hx23 rfl)) rfl) rfl rfl)⟩, ⟨(fun g24 => SO.at (SO.val (PO.sub rfl rfl) rfl) rfl rfl), (fun g24 => SO.at (SO.val (PO.sub rfl rfl) rfl) rfl rfl)⟩, ⟨(fun g24 => SO.at (SO.val (PO.idxL 1 rfl rfl Tryz.runUnderlying77 Tryz.sizeOf45 rfl hx25) rfl) rfl rfl), (fun g24 => SO.at (SO.val (PO.idxL 1 rfl rfl Tryz.runUnderlying77 Tryz.sizeOf45 rfl hx25) rfl) rfl rfl)⟩, ⟨(fun g24 => SO.at (SO.val (PO.loadLAgg (c := Nd.cells) (k := 7) 1 (fun _ => rfl) rfl Tryz.isAgg45 Tryz.sizeOf45 rfl hx25 rfl) rfl) rfl rfl), (fun g24 => SO.at (SO.val (PO.loadLAgg (c := Nd.cells) (k := 7) 1 (fun _ => rfl) rfl Tryz.isAgg45 Tryz.sizeOf45 rfl hx25 rfl) rfl) rfl rfl)⟩, (fun g24 => SO.eff (EO.alloc Tryz.zeroValue45) rfl fun _ _ ⟨b_, e1, e2⟩ => ⟨b_, fun _ => by rw [e1]; rfl, e2.trans rfl, ⟨rfl, rfl, rfl, rfl, rfl, rfl, rfl, rfl, rfl, rfl, rfl, trivial⟩⟩), (fun g24 => SO.eff (EO.store 11 _ rfl rfl Tryz.sizeOf45 rfl rfl rfl rfl) rfl fun _ _ e2 => ⟨g24, fun h_ => absurd (show false = true from h_) Bool.false_ne_true, e2.trans rfl, (AgreeM_refl _ _ rfl)⟩), trivial⟩ (fun g24 => [pt p0 (.cells #[.int .i64 S.limit, v0, .map (some mf0), .map (some mn0)] 80 (0, 0)), slc 45 7 v0 S.all.length (fl Nd.cells S.all), mapAt Nd.val iv mf0 S.found, mapAt sv iv mn0 S.names, slc 3 1 v_1 s.length (fl ic s), F, slc 3 1 (nils 1) ([] : List Int).length (fl ic ([] : List Int)), slc 3 1 c21_0 c21_1.length (fl ic c21_1), slc 4 1 v10 c21_4.length (fl bc c21_4), slc 116 2 c21_2 c21_3.length (fl Pl.cells c21_3), pt b18 (.cells #[.int .i64 x14, .int .i64 0] 116 (0, 0)), pt g24 (.cells #[.int .i64 x25.Op, .int .i64 x25.W, .int .i64 x25.A, .int .i64 x25.B, .int .i64 x25.C, .int .u64 x25.Num, .string x25.Name] 45 (0, 0))]) (fun _ => rfl) (fun g24 => [(60, .pointer (some ⟨p0, 0, none⟩)), (61, .pointer (some ⟨p0, 0, none⟩)), (62, .pointer (some ⟨p0, 1, none⟩)), (63, v0), (64, .pointer (some ⟨blk c21_2, (IntKind.i64.wrap ((c21_3.length : Int) - 1)).toNat * 2 + 0, none⟩)), (65, .pointer (some ⟨blk c21_2, (IntKind.i64.wrap ((c21_3.length : Int) - 1)).toNat * 2 + 0, none⟩)), (66, .pointer (some ⟨blk c21_2, (IntKind.i64.wrap ((c21_3.length : Int) - 1)).toNat * 2 + 0, none⟩)), (67, .int .i64 x23.t), (68, .int .i64 (IntKind.i64.wrap (x23.t - 1))), (69, .pointer (some ⟨blk v0, (IntKind.i64.wrap (x23.t - 1)).toNat * 7 + 0, none⟩)), (70, .agg #[.int .i64 x25.Op, .int .i64 x25.W, .int .i64 x25.A, .int .i64 x25.B, .int .i64 x25.C, .int .u64 x25.Num, .string x25.Name]), (14, .pointer (some ⟨g24, 0, none⟩)), (0, .pointer (some ⟨p0, 0, none⟩)), (4, (nils 1)), (5, .int .i64 0), (8, c21_0), (9, v10), (10, c21_2), (34, v_1), (35, .int .i64 (s.length : Int)), (36, .int .i64 c12_0), (13, .pointer (some ⟨blk c21_2, (IntKind.i64.wrap ((c21_3.length : Int) - 1)).toNat * 2 + 0, none⟩))]) (fun _ => rfl) (fun g24 => ?_)
                refine WP.seq ?_
                refine WP.seq ?_
                obtain ⟨x27, hx27, hs⟩ := lt_elim hs
                refine WP.draw (γ := Unit) Tryz.mixedOrder [some 71, some 72, some 73, some 74, some 75, some 76, some 77, some 78] rfl [(13, .pointer (some ⟨blk c21_2, (IntKind.i64.wrap ((c21_3.length : Int) - 1)).toNat * 2 + 0, none⟩)), (36, .int .i64 c12_0), (35, .int .i64 (s.length : Int)), (34, v_1), (10, c21_2), (9, v10), (8, c21_0), (5, .int .i64 0), (4, (nils 1)), (0, .pointer (some ⟨p0, 0, none⟩)), (14, .pointer (some ⟨g24, 0, none⟩))] ⟨rfl, rfl, rfl, rfl, rfl, rfl, rfl, rfl, rfl, rfl, rfl, trivial⟩ (fun g26 => [.pointer (some ⟨blk c21_2, (IntKind.i64.wrap ((c21_3.length : Int) - 1)).toNat * 2 + 0, none⟩), .pointer (some ⟨blk c21_2, (IntKind.i64.wrap ((c21_3.length : Int) - 1)).toNat * 2 + 0, none⟩), .pointer (some ⟨blk c21_2, (IntKind.i64.wrap ((c21_3.length : Int) - 1)).toNat * 2 + 1, none⟩), .int .i64 x23.next, .pointer (some ⟨g24, 0, none⟩), .int .i64 x25.Op, .int .i64 x27, .bool (x23.next == x27)]) [⟨[], 0, 0, false⟩, ⟨[0], 0, 0, false⟩, ⟨[1], 0, 0, false⟩, ⟨[2], 0, 0, false⟩, ⟨[], 0, 0, false⟩, ⟨[4], 0, 0, false⟩, ⟨[5], 0, 0, false⟩, ⟨[3, 6], 0, 0, false⟩] [] (fun g26 => [[pt p0 (.cells #[.int .i64 S.limit, v0, .map (some mf0), .map (some mn0)] 80 (0, 0)), slc 45 7 v0 S.all.length (fl Nd.cells S.all), mapAt Nd.val iv mf0 S.found, mapAt sv iv mn0 S.names, slc 3 1 v_1 s.length (fl ic s), F, slc 3 1 (nils 1) ([] : List Int).length (fl ic ([] : List Int)), slc 3 1 c21_0 c21_1.length (fl ic c21_1), slc 4 1 v10 c21_4.length (fl bc c21_4), slc 116 2 c21_2 c21_3.length (fl Pl.cells c21_3), pt b18 (.cells #[.int .i64 x14, .int .i64 0] 116 (0, 0)), pt g24 (.cells #[.int .i64 x25.Op, .int .i64 x25.W, .int .i64 x25.A, .int .i64 x25.B, .int .i64 x25.C, .int .u64 x25.Num, .string x25.Name] 45 (0, 0))]]) rfl rfl rfl ⟨(fun g26 => SO.at (SO.val (PO.move rfl) rfl) rfl rfl), (fun g26 => SO.at (SO.val (PO.nilCheck rfl) rfl) rfl rfl), (fun g26 => SO.at (SO.val (PO.fieldAddr rfl Tryz.runUnderlying116 rfl Tryz.sizeOf3 rfl) rfl) rfl rfl), (fun g26 => SO.at (SO.val (PO.loadL 9 rfl Tryz.isAgg3 rfl (fl_at (c := Pl.cells) (k := 2) (j := 1) (fun _ => rfl) hx23 rfl)) rfl) rfl rfl), (fun g26 => SO.at (SO.val (PO.fieldAddr rfl Tryz.runUnderlying45 rfl Tryz.sizeOf3 rfl) rfl) rfl rfl), (fun g26 => SO.at (SO.val (PO.load 11 rfl Tryz.isAgg3 rfl rfl) rfl) rfl rfl), (fun g26 => SO.at (SO.vo (VO.call0 Tryz.call42 rfl (t_parts hx27)) rfl) rfl rfl), (fun g26 => SO.at (SO.val (PO.eql rfl rfl) rfl) rfl rfl), trivial⟩ (fun g26 => [pt p0 (.cells #[.int .i64 S.limit, v0, .map (some mf0), .map (some mn0)] 80 (0, 0)), slc 45 7 v0 S.all.length (fl Nd.cells S.all), mapAt Nd.val iv mf0 S.found, mapAt sv iv mn0 S.names, slc 3 1 v_1 s.length (fl ic s), F, slc 3 1 (nils 1) ([] : List Int).length (fl ic ([] : List Int)), slc 3 1 c21_0 c21_1.length (fl ic c21_1), slc 4 1 v10 c21_4.length (fl bc c21_4), slc 116 2 c21_2 c21_3.length (fl Pl.cells c21_3), pt b18 (.cells #[.int .i64 x14, .int .i64 0] 116 (0, 0)), pt g24 (.cells #[.int .i64 x25.Op, .int .i64 x25.W, .int .i64 x25.A, .int .i64 x25.B, .int .i64 x25.C, .int .u64 x25.Num, .string x25.Name] 45 (0, 0))]) (fun _ => rfl) (fun g26 => [(71, .pointer (some ⟨blk c21_2, (IntKind.i64.wrap ((c21_3.length : Int) - 1)).toNat * 2 + 0, none⟩)), (72, .pointer (some ⟨blk c21_2, (IntKind.i64.wrap ((c21_3.length : Int) - 1)).toNat * 2 + 0, none⟩)), (73, .pointer (some ⟨blk c21_2, (IntKind.i64.wrap ((c21_3.length : Int) - 1)).toNat * 2 + 1, none⟩)), (74, .int .i64 x23.next), (75, .pointer (some ⟨g24, 0, none⟩)), (76, .int .i64 x25.Op), (77, .int .i64 x27), (78, .bool (x23.next == x27)), (13, .pointer (some ⟨blk c21_2, (IntKind.i64.wrap ((c21_3.length : Int) - 1)).toNat * 2 + 0, none⟩)), (36, .int .i64 c12_0), (35, .int .i64 (s.length : Int)), (34, v_1), (10, c21_2), (9, v10), (8, c21_0), (5, .int .i64 0), (4, (nils 1)), (0, .pointer (some ⟨p0, 0, none⟩)), (14, .pointer (some ⟨g24, 0, none⟩))]) (fun _ => rfl) (fun g26 => ?_)
                refine WP.cond rfl (fun h28 => ?_) (fun h28 => ?_)
                · replace hs := cond_t h28 hs
                  refine WP.seq ?_
                  refine WP.region ?_
                  refine WO.val (PO.move rfl) rfl ?_
                  refine WO.val (PO.move rfl) rfl ?_
                  refine WO.val (PO.nilCheck rfl) rfl ?_
                  refine WO.val (PO.fieldAddr rfl Tryz.runUnderlying116 rfl Tryz.sizeOf3 rfl) rfl ?_
                  refine WO.val (PO.loadL 9 rfl Tryz.isAgg3 rfl (fl_at (c := Pl.cells) (k := 2) (j := 0) (fun _ => rfl) hx23 rfl)) rfl ?_
                  refine WO.step (SO.of rfl (EO.buildSlice1 rfl Tryz.runUnderlying24 Tryz.sizeOf3 Tryz.zeroValue3 rfl rfl rfl rfl)) rfl ?_
                  rintro _ _ ⟨b29, rfl, rfl⟩
                  refine WO.toL [pt p0 (.cells #[.int .i64 S.limit, v0, .map (some mf0), .map (some mn0)] 80 (0, 0)), slc 45 7 v0 S.all.length (fl Nd.cells S.all), mapAt Nd.val iv mf0 S.found, mapAt sv iv mn0 S.names, slc 3 1 v_1 s.length (fl ic s), F, slc 3 1 (nils 1) ([] : List Int).length (fl ic ([] : List Int)), slc 3 1 c21_0 c21_1.length (fl ic c21_1), slc 4 1 v10 c21_4.length (fl bc c21_4), slc 116 2 c21_2 c21_3.length (fl Pl.cells c21_3), pt b18 (.cells #[.int .i64 x14, .int .i64 0] 116 (0, 0)), pt g24 (.cells #[.int .i64 x25.Op, .int .i64 x25.W, .int .i64 x25.A, .int .i64 x25.B, .int .i64 x25.C, .int .u64 x25.Num, .string x25.Name] 45 (0, 0)), pt b29 (.cells #[.int .i64 x23.t] 3 (0, 0))] rfl ?_
                  obtain ⟨hc30, hs⟩ := check_elim hs
                  refine WO.step (SO.of rfl (EO.appendL (c := ic) (a := x23.t) 7 12 (fun _ => rfl) Tryz.typeInfo3 rfl rfl rfl rfl Tryz.runUnderlying24 Tryz.underlying24 rfl rfl rfl rfl rfl rfl rfl rfl hc30)) rfl ?_
                  rintro v31 _ rfl
                  refine WO.toL [pt p0 (.cells #[.int .i64 S.limit, v0, .map (some mf0), .map (some mn0)] 80 (0, 0)), slc 45 7 v0 S.all.length (fl Nd.cells S.all), mapAt Nd.val iv mf0 S.found, mapAt sv iv mn0 S.names, slc 3 1 v_1 s.length (fl ic s), F, slc 3 1 (nils 1) ([] : List Int).length (fl ic ([] : List Int)), slc 3 1 v31 (c21_1 ++ [x23.t]).length (fl ic (c21_1 ++ [x23.t])), slc 4 1 v10 c21_4.length (fl bc c21_4), slc 116 2 c21_2 c21_3.length (fl Pl.cells c21_3), pt b18 (.cells #[.int .i64 x14, .int .i64 0] 116 (0, 0)), pt g24 (.cells #[.int .i64 x25.Op, .int .i64 x25.W, .int .i64 x25.A, .int .i64 x25.B, .int .i64 x25.C, .int .u64 x25.Num, .string x25.Name] 45 (0, 0)), pt b29 (.cells #[.int .i64 x23.t] 3 (0, 0))] rfl ?_
                  refine WO.val (PO.assign rfl) rfl ?_
                  refine WO.nil ?_
                  refine WP.seq ?_
                  refine WP.region ?_
                  refine WO.val (PO.move rfl) rfl ?_
                  refine WO.val (PO.move rfl) rfl ?_
                  refine WO.val (PO.lenL 9 rfl Tryz.runUnderlying114 rfl) rfl ?_
                  refine WO.val (PO.sub rfl rfl) rfl ?_
                  obtain ⟨hc32, hs⟩ := check_elim hs
                  refine WO.step (SO.of rfl (EO.sliceTo (c := Pl.cells) 9 (fun _ => rfl) rfl rfl Tryz.underlying114 Tryz.sizeOf116 rfl hc32)) rfl ?_
                  rintro _ _ ⟨rfl, rfl⟩
                  refine WO.toL [pt p0 (.cells #[.int .i64 S.limit, v0, .map (some mf0), .map (some mn0)] 80 (0, 0)), slc 45 7 v0 S.all.length (fl Nd.cells S.all), mapAt Nd.val iv mf0 S.found, mapAt sv iv mn0 S.names, slc 3 1 v_1 s.length (fl ic s), F, slc 3 1 (nils 1) ([] : List Int).length (fl ic ([] : List Int)), slc 3 1 v31 (c21_1 ++ [x23.t]).length (fl ic (c21_1 ++ [x23.t])), slc 4 1 v10 c21_4.length (fl bc c21_4), slc 116 2 (sliceTo c21_2 (IntKind.i64.wrap ((c21_3.length : Int) - 1)).toNat) (c21_3.take (IntKind.i64.wrap ((c21_3.length : Int) - 1)).toNat).length (fl Pl.cells (c21_3.take (IntKind.i64.wrap ((c21_3.length : Int) - 1)).toNat)), pt b18 (.cells #[.int .i64 x14, .int .i64 0] 116 (0, 0)), pt g24 (.cells #[.int .i64 x25.Op, .int .i64 x25.W, .int .i64 x25.A, .int .i64 x25.B, .int .i64 x25.C, .int .u64 x25.Num, .string x25.Name] 45 (0, 0)), pt b29 (.cells #[.int .i64 x23.t] 3 (0, 0))] rfl ?_
                  refine WO.val (PO.assign rfl) rfl ?_
                  refine WO.nil ?_
                  refine WP.exit (inX.hit ?_)
                  exact ⟨c21_k, _, Nat.lt_succ_self _, ⟨v31, (c21_1 ++ [x23.t]), (sliceTo c21_2 (IntKind.i64.wrap ((c21_3.length : Int) - 1)).toNat), (c21_3.take (IntKind.i64.wrap ((c21_3.length : Int) - 1)).toNat), c21_4, ⟨rfl, rfl, rfl, rfl, rfl, rfl, rfl, rfl, rfl, trivial⟩, rfl, hs⟩, fun _ s => s.pre⟩
                · replace hs := cond_f h28 hs
                  refine WP.skip ?_
                  refine WP.seq ?_
                  obtain ⟨x34, hx34, hs⟩ := bind_elim hs
                  refine WP.draw (γ := Unit) Tryz.mixedOrder [some 91, some 92, some 93, some 94, some 95, some 96, some 97, some 98, some 99, some 100, some 101, some 102, some 15] rfl [(14, .pointer (some ⟨g24, 0, none⟩)), (0, .pointer (some ⟨p0, 0, none⟩)), (4, (nils 1)), (5, .int .i64 0), (8, c21_0), (9, v10), (10, c21_2), (34, v_1), (35, .int .i64 (s.length : Int)), (36, .int .i64 c12_0), (13, .pointer (some ⟨blk c21_2, (IntKind.i64.wrap ((c21_3.length : Int) - 1)).toNat * 2 + 0, none⟩))] ⟨rfl, rfl, rfl, rfl, rfl, rfl, rfl, rfl, rfl, rfl, rfl, trivial⟩ (fun g33 => [.pointer (some ⟨g24, 2, none⟩), .int .i64 x25.A, .pointer (some ⟨g24, 3, none⟩), .int .i64 x25.B, .pointer (some ⟨g24, 4, none⟩), .int .i64 x25.C, .agg #[.int .i64 x25.A, .int .i64 x25.B, .int .i64 x25.C], .pointer (some ⟨blk c21_2, (IntKind.i64.wrap ((c21_3.length : Int) - 1)).toNat * 2 + 0, none⟩), .pointer (some ⟨blk c21_2, (IntKind.i64.wrap ((c21_3.length : Int) - 1)).toNat * 2 + 0, none⟩), .pointer (some ⟨blk c21_2, (IntKind.i64.wrap ((c21_3.length : Int) - 1)).toNat * 2 + 1, none⟩), .int .i64 x23.next, .int .i64 x34, .int .i64 x34]) [⟨[], 0, 0, false⟩, ⟨[0], 0, 0, false⟩, ⟨[], 0, 0, false⟩, ⟨[2], 0, 0, false⟩, ⟨[], 0, 0, false⟩, ⟨[4], 0, 0, false⟩, ⟨[1, 3, 5], 0, 0, false⟩, ⟨[], 0, 0, false⟩, ⟨[7], 0, 0, false⟩, ⟨[8], 0, 0, false⟩, ⟨[9], 0, 0, false⟩, ⟨[6, 10], 0, 0, false⟩, ⟨[11, 11], 0, 0, false⟩] [] (fun g33 => [[pt p0 (.cells #[.int .i64 S.limit, v0, .map (some mf0), .map (some mn0)] 80 (0, 0)), slc 45 7 v0 S.all.length (fl Nd.cells S.all), mapAt Nd.val iv mf0 S.found, mapAt sv iv mn0 S.names, slc 3 1 v_1 s.length (fl ic s), F, slc 3 1 (nils 1) ([] : List Int).length (fl ic ([] : List Int)), slc 3 1 c21_0 c21_1.length (fl ic c21_1), slc 4 1 v10 c21_4.length (fl bc c21_4), slc 116 2 c21_2 c21_3.length (fl Pl.cells c21_3), pt b18 (.cells #[.int .i64 x14, .int .i64 0] 116 (0, 0)), pt g24 (.cells #[.int .i64 x25.Op, .int .i64 x25.W, .int .i64 x25.A, .int .i64 x25.B, .int .i64 x25.C, .int .u64 x25.Num, .string x25.Name] 45 (0, 0))]]) rfl rfl rfl ⟨(fun g33 => SO.at (SO.val (PO.fieldAddr rfl Tryz.runUnderlying45 rfl Tryz.sizeOf3 rfl) rfl) rfl rfl), (fun g33 => SO.at (SO.val (PO.load 11 rfl Tryz.isAgg3 rfl rfl) rfl) rfl rfl), (fun g33 => SO.at (SO.val (PO.fieldAddr rfl Tryz.runUnderlying45 rfl Tryz.sizeOf3 rfl) rfl) rfl rfl), (fun g33 => SO.at (SO.val (PO.load 11 rfl Tryz.isAgg3 rfl rfl) rfl) rfl rfl), (fun g33 => SO.at (SO.val (PO.fieldAddr rfl Tryz.runUnderlying45 rfl Tryz.sizeOf3 rfl) rfl) rfl rfl), (fun g33 => SO.at (SO.val (PO.load 11 rfl Tryz.isAgg3 rfl rfl) rfl) rfl rfl), (fun g33 => SO.at (SO.val (PO.build (v := .agg #[.int .i64 x25.A, .int .i64 x25.B, .int .i64 x25.C]) rfl (fun w => by simp [Instr.build, Instr.fill, Value.cells, addr_add', Tryz.zeroValue100, Tryz.runUnderlying100, Tryz.sizeOf3])) rfl) rfl rfl), (fun g33 => SO.at (SO.val (PO.move rfl) rfl) rfl rfl), (fun g33 => SO.at (SO.val (PO.nilCheck rfl) rfl) rfl rfl), (fun g33 => SO.at (SO.val (PO.fieldAddr rfl Tryz.runUnderlying116 rfl Tryz.sizeOf3 rfl) rfl) rfl rfl), (fun g33 => SO.at (SO.val (PO.loadL 9 rfl Tryz.isAgg3 rfl (fl_at (c := Pl.cells) (k := 2) (j := 1) (fun _ => rfl) hx23 rfl)) rfl) rfl rfl), (fun g33 => SO.at (SO.val (PO.idxArrS (l := [x25.A, x25.B, x25.C]) rfl rfl Tryz.runUnderlying100 Tryz.sizeOf3 Tryz.isAgg3 rfl rfl hx34) rfl) rfl rfl), (fun g33 => SO.at (SO.val (PO.assign rfl) rfl) rfl rfl), trivial⟩ (fun g33 => [pt p0 (.cells #[.int .i64 S.limit, v0, .map (some mf0), .map (some mn0)] 80 (0, 0)), slc 45 7 v0 S.all.length (fl Nd.cells S.all), mapAt Nd.val iv mf0 S.found, mapAt sv iv mn0 S.names, slc 3 1 v_1 s.length (fl ic s), F, slc 3 1 (nils 1) ([] : List Int).length (fl ic ([] : List Int)), slc 3 1 c21_0 c21_1.length (fl ic c21_1), slc 4 1 v10 c21_4.length (fl bc c21_4), slc 116 2 c21_2 c21_3.length (fl Pl.cells c21_3), pt b18 (.cells #[.int .i64 x14, .int .i64 0] 116 (0, 0)), pt g24 (.cells #[.int .i64 x25.Op, .int .i64 x25.W, .int .i64 x25.A, .int .i64 x25.B, .int .i64 x25.C, .int .u64 x25.Num, .string x25.Name] 45 (0, 0))]) (fun _ => rfl) (fun g33 => [(91, .pointer (some ⟨g24, 2, none⟩)), (92, .int .i64 x25.A), (93, .pointer (some ⟨g24, 3, none⟩)), (94, .int .i64 x25.B), (95, .pointer (some ⟨g24, 4, none⟩)), (96, .int .i64 x25.C), (97, .agg #[.int .i64 x25.A, .int .i64 x25.B, .int .i64 x25.C]), (98, .pointer (some ⟨blk c21_2, (IntKind.i64.wrap ((c21_3.length : Int) - 1)).toNat * 2 + 0, none⟩)), (99, .pointer (some ⟨blk c21_2, (IntKind.i64.wrap ((c21_3.length : Int) - 1)).toNat * 2 + 0, none⟩)), (100, .pointer (some ⟨blk c21_2, (IntKind.i64.wrap ((c21_3.length : Int) - 1)).toNat * 2 + 1, none⟩)), (101, .int .i64 x23.next), (102, .int .i64 x34), (15, .int .i64 x34), (14, .pointer (some ⟨g24, 0, none⟩)), (0, .pointer (some ⟨p0, 0, none⟩)), (4, (nils 1)), (5, .int .i64 0), (8, c21_0), (9, v10), (10, c21_2), (34, v_1), (35, .int .i64 (s.length : Int)), (36, .int .i64 c12_0), (13, .pointer (some ⟨blk c21_2, (IntKind.i64.wrap ((c21_3.length : Int) - 1)).toNat * 2 + 0, none⟩))]) (fun _ => rfl) (fun g33 => ?_)
                  refine WP.seq ?_
                  refine WP.region ?_
                  refine WO.val (PO.move rfl) rfl ?_
                  refine WO.val (PO.nilCheck rfl) rfl ?_
                  refine WO.val (PO.fieldAddr rfl Tryz.runUnderlying116 rfl Tryz.sizeOf3 rfl) rfl ?_
                  refine WO.val (PO.loadL 9 rfl Tryz.isAgg3 rfl (fl_at (c := Pl.cells) (k := 2) (j := 1) (fun _ => rfl) hx23 rfl)) rfl ?_
                  refine WO.val (PO.add rfl rfl) rfl ?_
                  refine WO.val (PO.nilCheck rfl) rfl ?_
                  refine WO.val (PO.fieldAddr rfl Tryz.runUnderlying116 rfl Tryz.sizeOf3 rfl) rfl ?_
                  refine WO.step (SO.of rfl (EO.storeI (c := Pl.cells) (a' := (⟨x23.t, (IntKind.i64.wrap (x23.next + 1))⟩ : Pl)) (j := 1) 9 (fun _ => rfl) rfl rfl Tryz.sizeOf3 rfl hx23 rfl rfl rfl rfl)) rfl ?_
                  rintro _ _ rfl
                  refine WO.toL [pt p0 (.cells #[.int .i64 S.limit, v0, .map (some mf0), .map (some mn0)] 80 (0, 0)), slc 45 7 v0 S.all.length (fl Nd.cells S.all), mapAt Nd.val iv mf0 S.found, mapAt sv iv mn0 S.names, slc 3 1 v_1 s.length (fl ic s), F, slc 3 1 (nils 1) ([] : List Int).length (fl ic ([] : List Int)), slc 3 1 c21_0 c21_1.length (fl ic c21_1), slc 4 1 v10 c21_4.length (fl bc c21_4), slc 116 2 c21_2 (c21_3.set (IntKind.i64.wrap ((c21_3.length : Int) - 1)).toNat (⟨x23.t, (IntKind.i64.wrap (x23.next + 1))⟩ : Pl)).length (fl Pl.cells (c21_3.set (IntKind.i64.wrap ((c21_3.length : Int) - 1)).toNat (⟨x23.t, (IntKind.i64.wrap (x23.next + 1))⟩ : Pl))), pt b18 (.cells #[.int .i64 x14, .int .i64 0] 116 (0, 0)), pt g24 (.cells #[.int .i64 x25.Op, .int .i64 x25.W, .int .i64 x25.A, .int .i64 x25.B, .int .i64 x25.C, .int .u64 x25.Num, .string x25.Name] 45 (0, 0))] rfl ?_
                  refine WO.nil ?_
                  refine WP.seq ?_
                  refine WP.region ?_
                  refine WO.val (PO.move rfl) rfl ?_
                  refine WO.val (PO.move rfl) rfl ?_
                  obtain ⟨x35, hx35, hs⟩ := bind_elim hs
                  refine WO.val (PO.idxL 8 rfl rfl Tryz.runUnderlying113 Tryz.sizeOf4 rfl hx35) rfl ?_
                  refine WO.val (PO.loadL 8 rfl Tryz.isAgg4 rfl (fl_at (c := bc) (k := 1) (j := 0) (fun _ => rfl) hx35 rfl)) rfl ?_
                  refine WO.val (PO.not rfl) rfl ?_
                  refine WO.nil ?_
                  refine WP.cond rfl (fun h36 => ?_) (fun h36 => ?_)
                  · replace hs := cond_t h36 hs
                    refine WP.seq ?_
                    refine WP.region ?_
                    refine WO.val (PO.move rfl) rfl ?_
                    refine WO.val (PO.move rfl) rfl ?_
                    obtain ⟨x37, hx37, hs⟩ := bind_elim hs
                    refine WO.val (PO.idxL 8 rfl rfl Tryz.runUnderlying113 Tryz.sizeOf4 rfl hx37) rfl ?_
                    refine WO.step (SO.of rfl (EO.storeI (c := bc) (a' := true) (j := 0) 8 (fun _ => rfl) rfl rfl Tryz.sizeOf4 rfl hx37 rfl rfl rfl rfl)) rfl ?_
                    rintro _ _ rfl
                    refine WO.toL [pt p0 (.cells #[.int .i64 S.limit, v0, .map (some mf0), .map (some mn0)] 80 (0, 0)), slc 45 7 v0 S.all.length (fl Nd.cells S.all), mapAt Nd.val iv mf0 S.found, mapAt sv iv mn0 S.names, slc 3 1 v_1 s.length (fl ic s), F, slc 3 1 (nils 1) ([] : List Int).length (fl ic ([] : List Int)), slc 3 1 c21_0 c21_1.length (fl ic c21_1), slc 4 1 v10 (c21_4.set x34.toNat true).length (fl bc (c21_4.set x34.toNat true)), slc 116 2 c21_2 (c21_3.set (IntKind.i64.wrap ((c21_3.length : Int) - 1)).toNat (⟨x23.t, (IntKind.i64.wrap (x23.next + 1))⟩ : Pl)).length (fl Pl.cells (c21_3.set (IntKind.i64.wrap ((c21_3.length : Int) - 1)).toNat (⟨x23.t, (IntKind.i64.wrap (x23.next + 1))⟩ : Pl))), pt b18 (.cells #[.int .i64 x14, .int .i64 0] 116 (0, 0)), pt g24 (.cells #[.int .i64 x25.Op, .int .i64 x25.W, .int .i64 x25.A, .int .i64 x25.B, .int .i64 x25.C, .int .u64 x25.Num, .string x25.Name] 45 (0, 0))] rfl ?_
                    refine WO.nil ?_
                    refine WP.region ?_
                    refine WO.val (PO.move rfl) rfl ?_
                    refine WO.val (PO.move rfl) rfl ?_
                    refine WO.val (PO.build (v := .agg #[.int .i64 x34, .int .i64 0]) rfl (fun w => by simp [Instr.build, Instr.fill, Value.cells, addr_add', Tryz.zeroValue116, Tryz.runUnderlying116, Tryz.sizeOf3])) rfl ?_
                    refine WO.step (SO.of rfl (EO.buildSlice1 rfl Tryz.runUnderlying114 Tryz.sizeOf116 Tryz.zeroValue116 rfl rfl rfl rfl)) rfl ?_
                    rintro _ _ ⟨b38, rfl, rfl⟩
                    refine WO.toL [pt p0 (.cells #[.int .i64 S.limit, v0, .map (some mf0), .map (some mn0)] 80 (0, 0)), slc 45 7 v0 S.all.length (fl Nd.cells S.all), mapAt Nd.val iv mf0 S.found, mapAt sv iv mn0 S.names, slc 3 1 v_1 s.length (fl ic s), F, slc 3 1 (nils 1) ([] : List Int).length (fl ic ([] : List Int)), slc 3 1 c21_0 c21_1.length (fl ic c21_1), slc 4 1 v10 (c21_4.set x34.toNat true).length (fl bc (c21_4.set x34.toNat true)), slc 116 2 c21_2 (c21_3.set (IntKind.i64.wrap ((c21_3.length : Int) - 1)).toNat (⟨x23.t, (IntKind.i64.wrap (x23.next + 1))⟩ : Pl)).length (fl Pl.cells (c21_3.set (IntKind.i64.wrap ((c21_3.length : Int) - 1)).toNat (⟨x23.t, (IntKind.i64.wrap (x23.next + 1))⟩ : Pl))), pt b18 (.cells #[.int .i64 x14, .int .i64 0] 116 (0, 0)), pt g24 (.cells #[.int .i64 x25.Op, .int .i64 x25.W, .int .i64 x25.A, .int .i64 x25.B, .int .i64 x25.C, .int .u64 x25.Num, .string x25.Name] 45 (0, 0)), pt b38 (.cells #[.int .i64 x34, .int .i64 0] 116 (0, 0))] rfl ?_
                    obtain ⟨hc39, hs⟩ := check_elim hs
                    refine WO.step (SO.of rfl (EO.appendL (c := Pl.cells) (a := (⟨x34, 0⟩ : Pl)) 9 12 (fun _ => rfl) Tryz.typeInfo116 rfl rfl rfl rfl Tryz.runUnderlying114 Tryz.underlying114 rfl rfl rfl rfl rfl rfl rfl rfl hc39)) rfl ?_
                    rintro v40 _ rfl
                    refine WO.toL [pt p0 (.cells #[.int .i64 S.limit, v0, .map (some mf0), .map (some mn0)] 80 (0, 0)), slc 45 7 v0 S.all.length (fl Nd.cells S.all), mapAt Nd.val iv mf0 S.found, mapAt sv iv mn0 S.names, slc 3 1 v_1 s.length (fl ic s), F, slc 3 1 (nils 1) ([] : List Int).length (fl ic ([] : List Int)), slc 3 1 c21_0 c21_1.length (fl ic c21_1), slc 4 1 v10 (c21_4.set x34.toNat true).length (fl bc (c21_4.set x34.toNat true)), slc 116 2 v40 ((c21_3.set (IntKind.i64.wrap ((c21_3.length : Int) - 1)).toNat (⟨x23.t, (IntKind.i64.wrap (x23.next + 1))⟩ : Pl)) ++ [(⟨x34, 0⟩ : Pl)]).length (fl Pl.cells ((c21_3.set (IntKind.i64.wrap ((c21_3.length : Int) - 1)).toNat (⟨x23.t, (IntKind.i64.wrap (x23.next + 1))⟩ : Pl)) ++ [(⟨x34, 0⟩ : Pl)])), pt b18 (.cells #[.int .i64 x14, .int .i64 0] 116 (0, 0)), pt g24 (.cells #[.int .i64 x25.Op, .int .i64 x25.W, .int .i64 x25.A, .int .i64 x25.B, .int .i64 x25.C, .int .u64 x25.Num, .string x25.Name] 45 (0, 0)), pt b38 (.cells #[.int .i64 x34, .int .i64 0] 116 (0, 0))] rfl ?_
                    refine WO.val (PO.assign rfl) rfl ?_
                    refine WO.nil ?_
                    exact ⟨c21_k, _, Nat.lt_succ_self _, ⟨c21_0, c21_1, v40, ((c21_3.set (IntKind.i64.wrap ((c21_3.length : Int) - 1)).toNat (⟨x23.t, (IntKind.i64.wrap (x23.next + 1))⟩ : Pl)) ++ [(⟨x34, 0⟩ : Pl)]), (c21_4.set x34.toNat true), ⟨rfl, rfl, rfl, rfl, rfl, rfl, rfl, rfl, rfl, trivial⟩, rfl, hs⟩, fun _ s => s.pre⟩
                  · replace hs := cond_f h36 hs
                    refine WP.skip ?_
                    exact ⟨c21_k, _, Nat.lt_succ_self _, ⟨c21_0, c21_1, c21_2, (c21_3.set (IntKind.i64.wrap ((c21_3.length : Int) - 1)).toNat (⟨x23.t, (IntKind.i64.wrap (x23.next + 1))⟩ : Pl)), c21_4, ⟨rfl, rfl, rfl, rfl, rfl, rfl, rfl, rfl, rfl, trivial⟩, rfl, hs⟩, fun _ s => s.pre⟩
              · replace hs := cond_f h22 hs
                refine WP.exit (inX.hit ?_)
                refine WP.region ?_
                refine WO.val (PO.add rfl rfl) rfl ?_
                refine WO.val (PO.move rfl) rfl ?_
                refine WO.nil ?_
                exact ⟨c12_k, _, Nat.lt_succ_self _, ⟨(IntKind.i64.wrap (c12_0 + 1)), c21_0, c21_1, c21_4, c21_2, c21_3, ⟨rfl, rfl, rfl, rfl, rfl, rfl, rfl, rfl, rfl, trivial⟩, rfl, hs⟩, fun _ s => s.pre⟩
        · replace hs := cond_f h13 hs
          refine WP.exit (inX.hit ?_)
          refine WP.seq ?_
          refine WP.region ?_
          refine WO.val (PO.move rfl) rfl ?_
          refine WO.val (PO.assign rfl) rfl ?_
          refine WO.val (PO.assign rfl) rfl ?_
          refine WO.nil ?_
          refine WP.ret ?_
          obtain rfl := Option.some.inj hs
          exact ⟨_, c12_1, _, _, rfl, Res.two (RV.tmp rfl) (RV.tmp rfl), rfl, fun _ s => Sat.out [0, 1, 4, 2] rfl ((fun _ s => stAt_close (s := (⟨S.limit, S.all, S.found, S.names⟩ : St)) s) _ s)⟩
attribute [irreducible] s_St_Order

end Go.Proofs.YtlnionilhagenaaGreatDoor
