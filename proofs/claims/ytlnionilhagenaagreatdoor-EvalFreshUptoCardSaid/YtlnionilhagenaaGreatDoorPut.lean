/- Printed by gen.py (my own program): Lean functions with the answers of the Go functions, and the proofs that the code comes to them. -/
import Derived.Test.YtlnionilhagenaaGreatDoorDput
namespace Go.Proofs.YtlnionilhagenaaGreatDoor
open Go.RowKit
set_option linter.all false
set_option maxRecDepth 100000
set_option maxHeartbeats 4000000
theorem Tryz.mixedPut : Tryz.prog.follows .mixedOrders = true := by kernel_rfl

/- cadence/eval.Put -/
def s_Ev_Put_j5 (c22_0 : Int) (rec_s_Ev_Put_l3 : Int → Option (St × ((List Int) × Int))) : Option (St × ((List Int) × Int)) :=
  rec_s_Ev_Put_l3 (IntKind.i64.wrap (c22_0 + 1))
def s_Ev_Put_l3 (S : St) (s : List Int) (k : Nat) (x2 : ((List Int) × Int)) (c17_1 : List (ByteArray × Int)) : Nat → Int → Option (St × ((List Int) × Int))
  | 0, _ => none
  | c22_k + 1, c22_0 =>
    cond (decide (c22_0 < (x2.1.length : Int)))
      ((getI x2.1 c22_0).bind fun x25 =>
      (s_St_Node S x25).bind fun x26 =>
      cond ((x26.1.Op != 4) || (((mget c17_1 x26.1.Name).getD 0) == 0))
        (s_Ev_Put_j5 c22_0 (s_Ev_Put_l3 S s k x2 c17_1 c22_k))
        ((s_St_Node S ((mget c17_1 x26.1.Name).getD 0)).bind fun x34 =>
        cond (x34.1.W != x26.1.W)
          (some (S, ([] : List Int), 71))
          (s_Ev_Put_j5 c22_0 (s_Ev_Put_l3 S s k x2 c17_1 c22_k))))
      ((s_remadeS k S s false (fun n_ => (mget c17_1 n_.Name).getD 0)).bind fun x38 =>
      lt s_Ev_number fun x40 =>
      some (x38.1, x38.2.1, x40))
def s_Ev_Put_l1 (S : St) (s : List Int) (roots : List ByteArray) (list : List Int) (k : Nat) (x2 : ((List Int) × Int)) : Nat → Int → (List (ByteArray × Int)) → Option (St × ((List Int) × Int))
  | 0, _, _ => none
  | c17_k + 1, c17_0, c17_1 =>
    cond (decide (c17_0 < (roots.length : Int)))
      ((getI roots c17_0).bind fun x19 =>
      (getI list c17_0).bind fun x21 =>
      s_Ev_Put_l1 S s roots list k x2 c17_k (IntKind.i64.wrap (c17_0 + 1)) (mput c17_1 x19 x21))
      (s_Ev_Put_l3 S s k x2 c17_1 k 0)
def s_Ev_Put (k : Nat) (S : St) (s : List Int) (roots : List ByteArray) (list : List Int) : Option (St × ((List Int) × Int)) :=
  (s_St_Order k S s).bind fun x2 =>
  cond (x2.2 != 0)
    (some (S, ([] : List Int), x2.2))
    ((s_St_Order k S list).bind fun x6 =>
    cond (x6.2 != 0)
      (some (S, ([] : List Int), x6.2))
      ((s_Ev_names k roots).bind fun x10 =>
      cond (x10 != 0)
        (some (S, ([] : List Int), x10))
        (cond ((roots.length : Int) != (list.length : Int))
          (some (S, ([] : List Int), 1))
          (s_Ev_Put_l1 S s roots list k x2 k 0 ([])))))
theorem t_Ev_Put {k : Nat} {p0 : Nat} {v_1 : Value} {v_2 : Value} {v_3 : Value} {S : St} {s : List Int} {roots : List ByteArray} {list : List Int} {r : St × ((List Int) × Int)}
    (hs : s_Ev_Put k S s roots list = some r) :
    TriX Tryz.prog 10 [.pointer (some ⟨p0, 0, none⟩), v_1, v_2, v_3] [stAt p0 S, slc 3 1 v_1 s.length (fl ic s), slc 9 1 v_2 roots.length (fl sc roots), slc 3 1 v_3 list.length (fl ic list)] (.ok r) faultV (fun (a_ : St × ((List Int) × Int)) (c : Value) => .tuple #[c, .int .i64 a_.2.2]) (fun a_ c => [stAt p0 a_.1, slc 3 1 v_1 s.length (fl ic s), slc 9 1 v_2 roots.length (fl sc roots), slc 3 1 v_3 list.length (fl ic list), slc 3 1 c a_.2.1.length (fl ic a_.2.1)]) := by
  unfold s_Ev_Put at hs
  refine TriX.of Tryz.func10 rfl Tryz.ntmps10 Tryz.results10 rfl (fun w0 F => ?_)
  refine WP.seq ?_
  refine WP.region ?_
  refine WO.heap [stAt p0 S, slc 3 1 v_1 s.length (fl ic s), slc 9 1 v_2 roots.length (fl sc roots), slc 3 1 v_3 list.length (fl ic list), F, slc 3 1 (nils 1) ([] : List Int).length (fl ic ([] : List Int))] (fun _ s => s.addNil 3 1 1) ?_
  refine WO.val (PO.assign (v := (nils 1)) rfl) rfl ?_
  refine WO.val (PO.assign rfl) rfl ?_
  refine WO.nil ?_
  refine WP.seq ?_
  refine WP.seq ?_
  refine WP.region ?_
  refine WO.val (PO.move rfl) rfl ?_
  refine WO.val (PO.eqlPN rfl rfl Tryz.runUnderlying23) rfl ?_
  refine WO.nil ?_
  refine WP.condF rfl ?_
  refine WP.skip ?_
  refine WP.seq ?_
  refine WP.region ?_
  refine WO.val (PO.move rfl) rfl ?_
  refine WO.val (PO.move rfl) rfl ?_
  obtain ⟨x2, hx2, hs⟩ := bind_elim hs
  refine WO.step (SO.of rfl (EO.callX [0, 1] Tryz.call26 rfl rfl (t_St_Order hx2) (fun _ => ⟨rfl, rfl, trivial⟩))) rfl ?_
  rintro _ _ ⟨v3, rfl, rfl⟩
  refine WO.toL [stAt p0 S, slc 3 1 v_1 s.length (fl ic s), slc 9 1 v_2 roots.length (fl sc roots), slc 3 1 v_3 list.length (fl ic list), F, slc 3 1 (nils 1) ([] : List Int).length (fl ic ([] : List Int)), slc 3 1 v3 x2.1.length (fl ic x2.1)] rfl ?_
  refine WO.val (PO.move rfl) rfl ?_
  refine WO.val (PO.extract rfl rfl) rfl ?_
  refine WO.val (PO.extract rfl rfl) rfl ?_
  refine WO.val (PO.assign rfl) rfl ?_
  refine WO.val (PO.assign rfl) rfl ?_
  refine WO.nil ?_
  refine WP.seq ?_
  refine WP.seq ?_
  refine WP.region ?_
  refine WO.val (PO.move rfl) rfl ?_
  refine WO.val (PO.neq rfl rfl) rfl ?_
  refine WO.nil ?_
  refine WP.cond rfl (fun h4 => ?_) (fun h4 => ?_)
  · replace hs := cond_t h4 hs
    refine WP.seq ?_
    refine WP.region ?_
    refine WO.val (PO.move rfl) rfl ?_
    refine WO.heap [stAt p0 S, slc 3 1 v_1 s.length (fl ic s), slc 9 1 v_2 roots.length (fl sc roots), slc 3 1 v_3 list.length (fl ic list), F, slc 3 1 (nils 1) ([] : List Int).length (fl ic ([] : List Int)), slc 3 1 v3 x2.1.length (fl ic x2.1), slc 3 1 (nils 5) ([] : List Int).length (fl ic ([] : List Int))] (fun _ s => s.addNil 3 1 5) ?_
    refine WO.val (PO.assign (v := (nils 5)) rfl) rfl ?_
    refine WO.val (PO.assign rfl) rfl ?_
    refine WO.nil ?_
    refine WP.ret ?_
    obtain rfl := Option.some.inj hs
    exact ⟨_, (nils 5), _, _, rfl, Res.two (RV.tmp rfl) (RV.tmp rfl), rfl, fun _ s => Sat.out [0, 1, 2, 3, 7, 4] rfl s⟩
  · replace hs := cond_f h4 hs
    refine WP.skip ?_
    refine WP.seq ?_
    refine WP.seq ?_
    refine WP.region ?_
    refine WO.val (PO.move rfl) rfl ?_
    refine WO.val (PO.move rfl) rfl ?_
    obtain ⟨x6, hx6, hs⟩ := bind_elim hs
    refine WO.step (SO.of rfl (EO.callX [0, 3] Tryz.call26 rfl rfl (t_St_Order hx6) (fun _ => ⟨rfl, rfl, trivial⟩))) rfl ?_
    rintro _ _ ⟨v7, rfl, rfl⟩
    refine WO.toL [stAt p0 S, slc 3 1 v_1 s.length (fl ic s), slc 9 1 v_2 roots.length (fl sc roots), slc 3 1 v_3 list.length (fl ic list), F, slc 3 1 (nils 1) ([] : List Int).length (fl ic ([] : List Int)), slc 3 1 v3 x2.1.length (fl ic x2.1), slc 3 1 v7 x6.1.length (fl ic x6.1)] rfl ?_
    refine WO.val (PO.move rfl) rfl ?_
    refine WO.val (PO.extract rfl rfl) rfl ?_
    refine WO.val (PO.extract rfl rfl) rfl ?_
    refine WO.val (PO.assign rfl) rfl ?_
    refine WO.nil ?_
    refine WP.seq ?_
    refine WP.region ?_
    refine WO.val (PO.move rfl) rfl ?_
    refine WO.val (PO.neq rfl rfl) rfl ?_
    refine WO.nil ?_
    refine WP.cond rfl (fun h8 => ?_) (fun h8 => ?_)
    · replace hs := cond_t h8 hs
      refine WP.seq ?_
      refine WP.region ?_
      refine WO.val (PO.move rfl) rfl ?_
      refine WO.heap [stAt p0 S, slc 3 1 v_1 s.length (fl ic s), slc 9 1 v_2 roots.length (fl sc roots), slc 3 1 v_3 list.length (fl ic list), F, slc 3 1 (nils 1) ([] : List Int).length (fl ic ([] : List Int)), slc 3 1 v3 x2.1.length (fl ic x2.1), slc 3 1 v7 x6.1.length (fl ic x6.1), slc 3 1 (nils 9) ([] : List Int).length (fl ic ([] : List Int))] (fun _ s => s.addNil 3 1 9) ?_
      refine WO.val (PO.assign (v := (nils 9)) rfl) rfl ?_
      refine WO.val (PO.assign rfl) rfl ?_
      refine WO.nil ?_
      refine WP.ret ?_
      obtain rfl := Option.some.inj hs
      exact ⟨_, (nils 9), _, _, rfl, Res.two (RV.tmp rfl) (RV.tmp rfl), rfl, fun _ s => Sat.out [0, 1, 2, 3, 8, 4] rfl s⟩
    · replace hs := cond_f h8 hs
      refine WP.skip ?_
      refine WP.seq ?_
      refine WP.seq ?_
      refine WP.region ?_
      refine WO.val (PO.move rfl) rfl ?_
      obtain ⟨x10, hx10, hs⟩ := bind_elim hs
      refine WO.step (SO.of rfl (EO.callX [2] Tryz.call27 rfl rfl (t_Ev_names hx10) (fun _ => ⟨rfl, trivial⟩))) rfl ?_
      rintro _ _ ⟨_, rfl, rfl⟩
      refine WO.toL [stAt p0 S, slc 3 1 v_1 s.length (fl ic s), slc 9 1 v_2 roots.length (fl sc roots), slc 3 1 v_3 list.length (fl ic list), F, slc 3 1 (nils 1) ([] : List Int).length (fl ic ([] : List Int)), slc 3 1 v3 x2.1.length (fl ic x2.1), slc 3 1 v7 x6.1.length (fl ic x6.1)] rfl ?_
      refine WO.val (PO.assign rfl) rfl ?_
      refine WO.nil ?_
      refine WP.seq ?_
      refine WP.region ?_
      refine WO.val (PO.move rfl) rfl ?_
      refine WO.val (PO.neq rfl rfl) rfl ?_
      refine WO.nil ?_
      refine WP.cond rfl (fun h11 => ?_) (fun h11 => ?_)
      · replace hs := cond_t h11 hs
        refine WP.seq ?_
        refine WP.region ?_
        refine WO.val (PO.move rfl) rfl ?_
        refine WO.heap [stAt p0 S, slc 3 1 v_1 s.length (fl ic s), slc 9 1 v_2 roots.length (fl sc roots), slc 3 1 v_3 list.length (fl ic list), F, slc 3 1 (nils 1) ([] : List Int).length (fl ic ([] : List Int)), slc 3 1 v3 x2.1.length (fl ic x2.1), slc 3 1 v7 x6.1.length (fl ic x6.1), slc 3 1 (nils 12) ([] : List Int).length (fl ic ([] : List Int))] (fun _ s => s.addNil 3 1 12) ?_
        refine WO.val (PO.assign (v := (nils 12)) rfl) rfl ?_
        refine WO.val (PO.assign rfl) rfl ?_
        refine WO.nil ?_
        refine WP.ret ?_
        obtain rfl := Option.some.inj hs
        exact ⟨_, (nils 12), _, _, rfl, Res.two (RV.tmp rfl) (RV.tmp rfl), rfl, fun _ s => Sat.out [0, 1, 2, 3, 8, 4] rfl s⟩
      · replace hs := cond_f h11 hs
        refine WP.skip ?_
        refine WP.seq ?_
        refine WP.seq ?_
        refine WP.region ?_
        refine WO.val (PO.move rfl) rfl ?_
        refine WO.val (PO.lenL 2 rfl Tryz.runUnderlying41 rfl) rfl ?_
        refine WO.val (PO.move rfl) rfl ?_
        refine WO.val (PO.lenL 3 rfl Tryz.runUnderlying24 rfl) rfl ?_
        refine WO.val (PO.neq rfl rfl) rfl ?_
        refine WO.nil ?_
        refine WP.cond rfl (fun h13 => ?_) (fun h13 => ?_)
        · replace hs := cond_t h13 hs
          refine WP.seq ?_
          refine WP.region ?_
          refine WO.heap [stAt p0 S, slc 3 1 v_1 s.length (fl ic s), slc 9 1 v_2 roots.length (fl sc roots), slc 3 1 v_3 list.length (fl ic list), F, slc 3 1 (nils 1) ([] : List Int).length (fl ic ([] : List Int)), slc 3 1 v3 x2.1.length (fl ic x2.1), slc 3 1 v7 x6.1.length (fl ic x6.1), slc 3 1 (nils 14) ([] : List Int).length (fl ic ([] : List Int))] (fun _ s => s.addNil 3 1 14) ?_
          refine WO.val (PO.assign (v := (nils 14)) rfl) rfl ?_
          refine WO.val (PO.assign rfl) rfl ?_
          refine WO.nil ?_
          refine WP.ret ?_
          obtain rfl := Option.some.inj hs
          exact ⟨_, (nils 14), _, _, rfl, Res.two (RV.tmp rfl) (RV.tmp rfl), rfl, fun _ s => Sat.out [0, 1, 2, 3, 8, 4] rfl s⟩
        · replace hs := cond_f h13 hs
          refine WP.skip ?_
          refine WP.seq ?_
          refine WP.region ?_
          refine WO.val (PO.move rfl) rfl ?_
          refine WO.val (PO.lenL 2 rfl Tryz.runUnderlying41 rfl) rfl ?_
          refine WO.step (SO.of rfl (EO.makeMapN (kv := sv) (vv := iv) rfl Tryz.runUnderlying69)) rfl ?_
          rintro _ _ ⟨b15, rfl, rfl⟩
          refine WO.toL [stAt p0 S, slc 3 1 v_1 s.length (fl ic s), slc 9 1 v_2 roots.length (fl sc roots), slc 3 1 v_3 list.length (fl ic list), F, slc 3 1 (nils 1) ([] : List Int).length (fl ic ([] : List Int)), slc 3 1 v3 x2.1.length (fl ic x2.1), slc 3 1 v7 x6.1.length (fl ic x6.1), mapAt sv iv b15 ([])] rfl ?_
          refine WO.step (SO.of rfl (EO.alloc Tryz.zeroValue69)) rfl ?_
          rintro _ _ ⟨b16, rfl, rfl⟩
          refine WO.toL [stAt p0 S, slc 3 1 v_1 s.length (fl ic s), slc 9 1 v_2 roots.length (fl sc roots), slc 3 1 v_3 list.length (fl ic list), F, slc 3 1 (nils 1) ([] : List Int).length (fl ic ([] : List Int)), slc 3 1 v3 x2.1.length (fl ic x2.1), slc 3 1 v7 x6.1.length (fl ic x6.1), mapAt sv iv b15 ([]), pt b16 (.cells #[.map none] 69 (0, 0))] rfl ?_
          refine WO.step (SO.of rfl (EO.store 9 _ rfl rfl Tryz.sizeOf69 rfl rfl rfl rfl)) rfl ?_
          rintro _ _ rfl
          refine WO.toL [stAt p0 S, slc 3 1 v_1 s.length (fl ic s), slc 9 1 v_2 roots.length (fl sc roots), slc 3 1 v_3 list.length (fl ic list), F, slc 3 1 (nils 1) ([] : List Int).length (fl ic ([] : List Int)), slc 3 1 v3 x2.1.length (fl ic x2.1), slc 3 1 v7 x6.1.length (fl ic x6.1), mapAt sv iv b15 ([]), pt b16 (.cells #[.map (some b15)] 69 (0, 0))] rfl ?_
          refine WO.nil ?_
          refine WP.seq ?_
          refine WP.seq ?_
          refine WP.region ?_
          refine WO.val (PO.move rfl) rfl ?_
          refine WO.val (PO.lenL 2 rfl Tryz.runUnderlying41 rfl) rfl ?_
          refine WO.val (PO.move rfl) rfl ?_
          refine WO.nil ?_
          refine WP.block ?_
          refine WP.loopG (fun c17_k f_ L_ => ∃ (c17_0 : Int) (c17_1 : List (ByteArray × Int)), Holds f_ [(0, .pointer (some ⟨p0, 0, none⟩)), (1, v_1), (3, v_3), (8, (nils 1)), (9, .int .i64 0), (10, v3), (12, .pointer (some ⟨b16, 0, none⟩)), (56, v_2), (57, .int .i64 (roots.length : Int)), (58, .int .i64 c17_0)] ∧ L_ = [stAt p0 S, slc 3 1 v_1 s.length (fl ic s), slc 9 1 v_2 roots.length (fl sc roots), slc 3 1 v_3 list.length (fl ic list), F, slc 3 1 (nils 1) ([] : List Int).length (fl ic ([] : List Int)), slc 3 1 v3 x2.1.length (fl ic x2.1), slc 3 1 v7 x6.1.length (fl ic x6.1), mapAt sv iv b15 c17_1, pt b16 (.cells #[.map (some b15)] 69 (0, 0))] ∧ s_Ev_Put_l1 S s roots list k x2 c17_k c17_0 c17_1 = some r) k ⟨0, [], ⟨rfl, rfl, rfl, rfl, rfl, rfl, rfl, rfl, rfl, rfl, trivial⟩, rfl, hs⟩ ?_
          rintro c17_k f_ L_ ⟨c17_0, c17_1, hf_, rfl, hs⟩
          refine WP.keep [(0, .pointer (some ⟨p0, 0, none⟩)), (1, v_1), (3, v_3), (8, (nils 1)), (9, .int .i64 0), (10, v3), (12, .pointer (some ⟨b16, 0, none⟩)), (56, v_2), (57, .int .i64 (roots.length : Int)), (58, .int .i64 c17_0)] hf_ ?_
          cases c17_k with
          | zero => exact nomatch (show none = some r from hs)
          | succ c17_k =>
            rw [s_Ev_Put_l1.eq_2] at hs
            refine WP.seq ?_
            refine WP.region ?_
            refine WO.val (PO.lss rfl rfl) rfl ?_
            refine WO.nil ?_
            refine WP.seq ?_
            refine WP.cond rfl (fun h18 => ?_) (fun h18 => ?_)
            · replace hs := cond_t h18 hs
              refine WP.skip ?_
              refine WP.seq ?_
              refine WP.block ?_
              refine WP.seq ?_
              refine WP.region ?_
              refine WO.val (PO.move rfl) rfl ?_
              obtain ⟨x19, hx19, hs⟩ := bind_elim hs
              refine WO.val (PO.idxL 2 rfl rfl Tryz.runUnderlying41 Tryz.sizeOf9 rfl hx19) rfl ?_
              refine WO.val (PO.loadL 2 rfl Tryz.isAgg9 rfl (fl_at (c := sc) (k := 1) (j := 0) (fun _ => rfl) hx19 rfl)) rfl ?_
              refine WO.val (PO.assign rfl) rfl ?_
              refine WO.val (PO.assign rfl) rfl ?_
              refine WO.nil ?_
              obtain ⟨x21, hx21, hs⟩ := bind_elim hs
              refine WP.draw (γ := Unit) Tryz.mixedPut [some 63, some 64, some 65, some 66, some 67, some 68, none] rfl [(0, .pointer (some ⟨p0, 0, none⟩)), (1, v_1), (3, v_3), (8, (nils 1)), (9, .int .i64 0), (10, v3), (12, .pointer (some ⟨b16, 0, none⟩)), (56, v_2), (57, .int .i64 (roots.length : Int)), (58, .int .i64 c17_0), (13, .int .i64 c17_0), (14, .string x19)] ⟨rfl, rfl, rfl, rfl, rfl, rfl, rfl, rfl, rfl, rfl, rfl, rfl, trivial⟩ (fun g20 => [.map (some b15), .string x19, v_3, .int .i64 c17_0, .pointer (some ⟨blk v_3, c17_0.toNat * 1 + 0, none⟩), .int .i64 x21, undef]) [⟨[], 0, 0, false⟩, ⟨[], 0, 0, false⟩, ⟨[], 0, 0, false⟩, ⟨[], 0, 0, false⟩, ⟨[2, 3], 0, 0, false⟩, ⟨[4], 0, 0, false⟩, ⟨[0, 1, 5, 0, 1, 5], 0, 0, true⟩] [6] (fun g20 => [[stAt p0 S, slc 3 1 v_1 s.length (fl ic s), slc 9 1 v_2 roots.length (fl sc roots), slc 3 1 v_3 list.length (fl ic list), F, slc 3 1 (nils 1) ([] : List Int).length (fl ic ([] : List Int)), slc 3 1 v3 x2.1.length (fl ic x2.1), slc 3 1 v7 x6.1.length (fl ic x6.1), mapAt sv iv b15 c17_1, pt b16 (.cells #[.map (some b15)] 69 (0, 0))], [stAt p0 S, slc 3 1 v_1 s.length (fl ic s), slc 9 1 v_2 roots.length (fl sc roots), slc 3 1 v_3 list.length (fl ic list), F, slc 3 1 (nils 1) ([] : List Int).length (fl ic ([] : List Int)), slc 3 1 v3 x2.1.length (fl ic x2.1), slc 3 1 v7 x6.1.length (fl ic x6.1), mapAt sv iv b15 (mput c17_1 x19 x21), pt b16 (.cells #[.map (some b15)] 69 (0, 0))]]) rfl rfl rfl ⟨(fun g20 => SO.at (SO.val (PO.load 9 rfl Tryz.isAgg69 rfl rfl) rfl) rfl rfl), (fun g20 => SO.at (SO.val (PO.move rfl) rfl) rfl rfl), (fun g20 => SO.at (SO.val (PO.move rfl) rfl) rfl rfl), (fun g20 => SO.at (SO.val (PO.move rfl) rfl) rfl rfl), (fun g20 => SO.at (SO.val (PO.idxL 3 rfl rfl Tryz.runUnderlying24 Tryz.sizeOf3 rfl hx21) rfl) rfl rfl), (fun g20 => SO.at (SO.val (PO.loadL 3 rfl Tryz.isAgg3 rfl (fl_at (c := ic) (k := 1) (j := 0) (fun _ => rfl) hx21 rfl)) rfl) rfl rfl), (fun g20 => SO.eff (EO.mapUpdate (a := x19) (b := x21) 8 _ str_key rfl rfl rfl Tryz.runUnderlying69 rfl rfl) rfl fun _ _ e2 => ⟨g20, fun h_ => absurd (show false = true from h_) Bool.false_ne_true, e2.trans rfl, (AgreeM_refl _ _ rfl)⟩), trivial⟩ (fun g20 => [stAt p0 S, slc 3 1 v_1 s.length (fl ic s), slc 9 1 v_2 roots.length (fl sc roots), slc 3 1 v_3 list.length (fl ic list), F, slc 3 1 (nils 1) ([] : List Int).length (fl ic ([] : List Int)), slc 3 1 v3 x2.1.length (fl ic x2.1), slc 3 1 v7 x6.1.length (fl ic x6.1), mapAt sv iv b15 (mput c17_1 x19 x21), pt b16 (.cells #[.map (some b15)] 69 (0, 0))]) (fun _ => rfl) (fun g20 => [(63, .map (some b15)), (64, .string x19), (65, v_3), (66, .int .i64 c17_0), (67, .pointer (some ⟨blk v_3, c17_0.toNat * 1 + 0, none⟩)), (68, .int .i64 x21), (0, .pointer (some ⟨p0, 0, none⟩)), (1, v_1), (3, v_3), (8, (nils 1)), (9, .int .i64 0), (10, v3), (12, .pointer (some ⟨b16, 0, none⟩)), (56, v_2), (57, .int .i64 (roots.length : Int)), (58, .int .i64 c17_0), (13, .int .i64 c17_0), (14, .string x19)]) (fun _ => rfl) (fun g20 => ?_)
              refine WP.region ?_
              refine WO.val (PO.add rfl rfl) rfl ?_
              refine WO.val (PO.move rfl) rfl ?_
              refine WO.nil ?_
              exact ⟨c17_k, _, Nat.lt_succ_self _, ⟨(IntKind.i64.wrap (c17_0 + 1)), (mput c17_1 x19 x21), ⟨rfl, rfl, rfl, rfl, rfl, rfl, rfl, rfl, rfl, rfl, trivial⟩, rfl, hs⟩, fun _ s => s.pre⟩
            · replace hs := cond_f h18 hs
              refine WP.exit (inX.hit ?_)
              refine WP.seq ?_
              refine WP.seq ?_
              refine WP.region ?_
              refine WO.val (PO.move rfl) rfl ?_
              refine WO.val (PO.lenL 6 rfl Tryz.runUnderlying24 rfl) rfl ?_
              refine WO.val (PO.move rfl) rfl ?_
              refine WO.nil ?_
              refine WP.block ?_
              refine WP.loopG (fun c22_k f_ L_ => ∃ (c22_0 : Int), Holds f_ [(0, .pointer (some ⟨p0, 0, none⟩)), (1, v_1), (8, (nils 1)), (9, .int .i64 0), (12, .pointer (some ⟨b16, 0, none⟩)), (70, v3), (71, .int .i64 (x2.1.length : Int)), (72, .int .i64 c22_0)] ∧ L_ = [stAt p0 S, slc 3 1 v_1 s.length (fl ic s), slc 9 1 v_2 roots.length (fl sc roots), slc 3 1 v_3 list.length (fl ic list), F, slc 3 1 (nils 1) ([] : List Int).length (fl ic ([] : List Int)), slc 3 1 v3 x2.1.length (fl ic x2.1), slc 3 1 v7 x6.1.length (fl ic x6.1), mapAt sv iv b15 c17_1, pt b16 (.cells #[.map (some b15)] 69 (0, 0))] ∧ s_Ev_Put_l3 S s k x2 c17_1 c22_k c22_0 = some r) k ⟨0, ⟨rfl, rfl, rfl, rfl, rfl, rfl, rfl, rfl, trivial⟩, rfl, hs⟩ ?_
              rintro c22_k f_ L_ ⟨c22_0, hf_, rfl, hs⟩
              refine WP.keep [(0, .pointer (some ⟨p0, 0, none⟩)), (1, v_1), (8, (nils 1)), (9, .int .i64 0), (12, .pointer (some ⟨b16, 0, none⟩)), (70, v3), (71, .int .i64 (x2.1.length : Int)), (72, .int .i64 c22_0)] hf_ ?_
              cases c22_k with
              | zero => exact nomatch (show none = some r from hs)
              | succ c22_k =>
                rw [s_Ev_Put_l3.eq_2] at hs
                refine WP.seq ?_
                refine WP.region ?_
                refine WO.val (PO.lss rfl rfl) rfl ?_
                refine WO.nil ?_
                refine WP.seq ?_
                refine WP.cond rfl (fun h23 => ?_) (fun h23 => ?_)
                · replace hs := cond_t h23 hs
                  refine WP.skip ?_
                  refine WP.seq ?_
                  refine WP.join (fun f_ L_ => Holds f_ [(0, .pointer (some ⟨p0, 0, none⟩)), (1, v_1), (8, (nils 1)), (9, .int .i64 0), (12, .pointer (some ⟨b16, 0, none⟩)), (70, v3), (71, .int .i64 (x2.1.length : Int)), (72, .int .i64 c22_0)] ∧ L_ = [stAt p0 S, slc 3 1 v_1 s.length (fl ic s), slc 9 1 v_2 roots.length (fl sc roots), slc 3 1 v_3 list.length (fl ic list), F, slc 3 1 (nils 1) ([] : List Int).length (fl ic ([] : List Int)), slc 3 1 v3 x2.1.length (fl ic x2.1), slc 3 1 v7 x6.1.length (fl ic x6.1), mapAt sv iv b15 c17_1, pt b16 (.cells #[.map (some b15)] 69 (0, 0))] ∧ s_Ev_Put_j5 c22_0 (s_Ev_Put_l3 S s k x2 c17_1 c22_k) = some r) ?_ ?_
                  · refine WP.block ?_
                    refine WP.seq ?_
                    refine WP.region ?_
                    obtain ⟨x25, hx25, hs⟩ := bind_elim hs
                    refine WO.val (PO.idxL 6 rfl rfl Tryz.runUnderlying24 Tryz.sizeOf3 rfl hx25) rfl ?_
                    refine WO.val (PO.loadL 6 rfl Tryz.isAgg3 rfl (fl_at (c := ic) (k := 1) (j := 0) (fun _ => rfl) hx25 rfl)) rfl ?_
                    refine WO.val (PO.assign rfl) rfl ?_
                    refine WO.nil ?_
                    refine WP.seq ?_
                    refine WP.region ?_
                    refine WO.val (PO.move rfl) rfl ?_
                    refine WO.val (PO.move rfl) rfl ?_
                    obtain ⟨x26, hx26, hs⟩ := bind_elim hs
                    refine WO.vo (VO.call1 0 Tryz.call15 rfl rfl (t_St_Node hx26)) rfl ?_
                    refine WO.val (PO.move rfl) rfl ?_
                    refine WO.val (PO.extract rfl rfl) rfl ?_
                    refine WO.val (PO.extract rfl rfl) rfl ?_
                    refine WO.step (SO.of rfl (EO.alloc Tryz.zeroValue45)) rfl ?_
                    rintro _ _ ⟨b27, rfl, rfl⟩
                    refine WO.toL [stAt p0 S, slc 3 1 v_1 s.length (fl ic s), slc 9 1 v_2 roots.length (fl sc roots), slc 3 1 v_3 list.length (fl ic list), F, slc 3 1 (nils 1) ([] : List Int).length (fl ic ([] : List Int)), slc 3 1 v3 x2.1.length (fl ic x2.1), slc 3 1 v7 x6.1.length (fl ic x6.1), mapAt sv iv b15 c17_1, pt b16 (.cells #[.map (some b15)] 69 (0, 0)), pt b27 (.cells #[.int .i64 0, .int .i64 0, .int .i64 0, .int .i64 0, .int .i64 0, .int .u64 0, .string (ByteArray.mk #[])] 45 (0, 0))] rfl ?_
                    refine WO.step (SO.of rfl (EO.store 10 _ rfl rfl Tryz.sizeOf45 rfl rfl rfl rfl)) rfl ?_
                    rintro _ _ rfl
                    refine WO.toL [stAt p0 S, slc 3 1 v_1 s.length (fl ic s), slc 9 1 v_2 roots.length (fl sc roots), slc 3 1 v_3 list.length (fl ic list), F, slc 3 1 (nils 1) ([] : List Int).length (fl ic ([] : List Int)), slc 3 1 v3 x2.1.length (fl ic x2.1), slc 3 1 v7 x6.1.length (fl ic x6.1), mapAt sv iv b15 c17_1, pt b16 (.cells #[.map (some b15)] 69 (0, 0)), pt b27 (.cells #[.int .i64 x26.1.Op, .int .i64 x26.1.W, .int .i64 x26.1.A, .int .i64 x26.1.B, .int .i64 x26.1.C, .int .u64 x26.1.Num, .string x26.1.Name] 45 (0, 0))] rfl ?_
                    refine WO.val (PO.assign rfl) rfl ?_
                    refine WO.nil ?_
                    refine WP.seq ?_
                    refine WP.seq ?_
                    refine WP.regionG (D := [some 82, some 83, some 84, some 85, some 86, some 87, some 88, some 89, some 90, some 91]) rfl ?_
                    refine WO.val (PO.fieldAddr rfl Tryz.runUnderlying45 rfl Tryz.sizeOf3 rfl) rfl ?_
                    refine WO.val (PO.load 10 rfl Tryz.isAgg3 rfl rfl) rfl ?_
                    refine WO.val (PO.neq rfl rfl) rfl ?_
                    refine WO.val (PO.move rfl) rfl ?_
                    refine WO.guardF rfl rfl (fun hg28 => (PO.load 9 rfl Tryz.isAgg69 rfl rfl).vo) rfl ?_
                    refine WO.guardF rfl rfl (fun hg29 => (PO.fieldAddr rfl Tryz.runUnderlying45 rfl Tryz.sizeOf9 rfl).vo) rfl ?_
                    refine WO.guardF rfl rfl (fun hg30 => (PO.load 10 (evg hg30 rfl) Tryz.isAgg9 rfl rfl).vo) rfl ?_
                    refine WO.guardF rfl rfl (fun hg31 => (PO.lookup1 (a := x26.1.Name) (z := 0) 8 str_key (evg hg31 rfl) (evg hg31 rfl) Tryz.runUnderlying69 Tryz.zeroValue3 rfl).vo) rfl ?_
                    refine WO.guardF rfl rfl (fun hg32 => (PO.eql (evg hg32 rfl) rfl).vo) rfl ?_
                    refine WO.val (PO.pickO rfl rfl rfl) rfl ?_
                    refine WO.nil ?_
                    refine WP.cond rfl (fun h33 => ?_) (fun h33 => ?_)
                    · replace hs := cond_t h33 hs
                      refine WP.exit (inX.hit ?_)
                      exact ⟨_, ⟨⟨rfl, rfl, rfl, rfl, rfl, rfl, rfl, rfl, trivial⟩, rfl, hs⟩, fun _ s => Sat.cutTo 10 rfl s⟩
                    · replace hs := cond_f h33 hs
                      refine WP.skip ?_
                      refine WP.seq ?_
                      refine WP.region ?_
                      refine WO.val (PO.move rfl) rfl ?_
                      refine WO.val (PO.load 9 rfl Tryz.isAgg69 rfl rfl) rfl ?_
                      refine WO.val (PO.fieldAddr rfl Tryz.runUnderlying45 rfl Tryz.sizeOf9 rfl) rfl ?_
                      refine WO.val (PO.load 10 rfl Tryz.isAgg9 rfl rfl) rfl ?_
                      refine WO.val (PO.lookup1 (a := x26.1.Name) (z := 0) 8 str_key rfl rfl Tryz.runUnderlying69 Tryz.zeroValue3 rfl) rfl ?_
                      obtain ⟨x34, hx34, hs⟩ := bind_elim hs
                      refine WO.vo (VO.call1 0 Tryz.call15 rfl rfl (t_St_Node hx34)) rfl ?_
                      refine WO.val (PO.move rfl) rfl ?_
                      refine WO.val (PO.extract rfl rfl) rfl ?_
                      refine WO.val (PO.extract rfl rfl) rfl ?_
                      refine WO.step (SO.of rfl (EO.alloc Tryz.zeroValue45)) rfl ?_
                      rintro _ _ ⟨b35, rfl, rfl⟩
                      refine WO.toL [stAt p0 S, slc 3 1 v_1 s.length (fl ic s), slc 9 1 v_2 roots.length (fl sc roots), slc 3 1 v_3 list.length (fl ic list), F, slc 3 1 (nils 1) ([] : List Int).length (fl ic ([] : List Int)), slc 3 1 v3 x2.1.length (fl ic x2.1), slc 3 1 v7 x6.1.length (fl ic x6.1), mapAt sv iv b15 c17_1, pt b16 (.cells #[.map (some b15)] 69 (0, 0)), pt b27 (.cells #[.int .i64 x26.1.Op, .int .i64 x26.1.W, .int .i64 x26.1.A, .int .i64 x26.1.B, .int .i64 x26.1.C, .int .u64 x26.1.Num, .string x26.1.Name] 45 (0, 0)), pt b35 (.cells #[.int .i64 0, .int .i64 0, .int .i64 0, .int .i64 0, .int .i64 0, .int .u64 0, .string (ByteArray.mk #[])] 45 (0, 0))] rfl ?_
                      refine WO.step (SO.of rfl (EO.store 11 _ rfl rfl Tryz.sizeOf45 rfl rfl rfl rfl)) rfl ?_
                      rintro _ _ rfl
                      refine WO.toL [stAt p0 S, slc 3 1 v_1 s.length (fl ic s), slc 9 1 v_2 roots.length (fl sc roots), slc 3 1 v_3 list.length (fl ic list), F, slc 3 1 (nils 1) ([] : List Int).length (fl ic ([] : List Int)), slc 3 1 v3 x2.1.length (fl ic x2.1), slc 3 1 v7 x6.1.length (fl ic x6.1), mapAt sv iv b15 c17_1, pt b16 (.cells #[.map (some b15)] 69 (0, 0)), pt b27 (.cells #[.int .i64 x26.1.Op, .int .i64 x26.1.W, .int .i64 x26.1.A, .int .i64 x26.1.B, .int .i64 x26.1.C, .int .u64 x26.1.Num, .string x26.1.Name] 45 (0, 0)), pt b35 (.cells #[.int .i64 x34.1.Op, .int .i64 x34.1.W, .int .i64 x34.1.A, .int .i64 x34.1.B, .int .i64 x34.1.C, .int .u64 x34.1.Num, .string x34.1.Name] 45 (0, 0))] rfl ?_
                      refine WO.val (PO.assign rfl) rfl ?_
                      refine WO.nil ?_
                      refine WP.seq ?_
                      refine WP.region ?_
                      refine WO.val (PO.fieldAddr rfl Tryz.runUnderlying45 rfl Tryz.sizeOf3 rfl) rfl ?_
                      refine WO.val (PO.load 11 rfl Tryz.isAgg3 rfl rfl) rfl ?_
                      refine WO.val (PO.fieldAddr rfl Tryz.runUnderlying45 rfl Tryz.sizeOf3 rfl) rfl ?_
                      refine WO.val (PO.load 10 rfl Tryz.isAgg3 rfl rfl) rfl ?_
                      refine WO.val (PO.neq rfl rfl) rfl ?_
                      refine WO.nil ?_
                      refine WP.cond rfl (fun h36 => ?_) (fun h36 => ?_)
                      · replace hs := cond_t h36 hs
                        refine WP.seq ?_
                        refine WP.region ?_
                        refine WO.heap [stAt p0 S, slc 3 1 v_1 s.length (fl ic s), slc 9 1 v_2 roots.length (fl sc roots), slc 3 1 v_3 list.length (fl ic list), F, slc 3 1 (nils 1) ([] : List Int).length (fl ic ([] : List Int)), slc 3 1 v3 x2.1.length (fl ic x2.1), slc 3 1 v7 x6.1.length (fl ic x6.1), mapAt sv iv b15 c17_1, pt b16 (.cells #[.map (some b15)] 69 (0, 0)), pt b27 (.cells #[.int .i64 x26.1.Op, .int .i64 x26.1.W, .int .i64 x26.1.A, .int .i64 x26.1.B, .int .i64 x26.1.C, .int .u64 x26.1.Num, .string x26.1.Name] 45 (0, 0)), pt b35 (.cells #[.int .i64 x34.1.Op, .int .i64 x34.1.W, .int .i64 x34.1.A, .int .i64 x34.1.B, .int .i64 x34.1.C, .int .u64 x34.1.Num, .string x34.1.Name] 45 (0, 0)), slc 3 1 (nils 37) ([] : List Int).length (fl ic ([] : List Int))] (fun _ s => s.addNil 3 1 37) ?_
                        refine WO.val (PO.assign (v := (nils 37)) rfl) rfl ?_
                        refine WO.val (PO.assign rfl) rfl ?_
                        refine WO.nil ?_
                        refine WP.ret ?_
                        obtain rfl := Option.some.inj hs
                        exact ⟨_, (nils 37), _, _, rfl, Res.two (RV.tmp rfl) (RV.tmp rfl), rfl, fun _ s => Sat.out [0, 1, 2, 3, 12, 4] rfl s⟩
                      · replace hs := cond_f h36 hs
                        refine WP.skip ?_
                        exact ⟨_, ⟨⟨rfl, rfl, rfl, rfl, rfl, rfl, rfl, rfl, trivial⟩, rfl, hs⟩, fun _ s => Sat.cutTo 10 rfl s⟩
                  · rintro f_ L_ ⟨hf_, rfl, hs⟩
                    refine WP.keep [(0, .pointer (some ⟨p0, 0, none⟩)), (1, v_1), (8, (nils 1)), (9, .int .i64 0), (12, .pointer (some ⟨b16, 0, none⟩)), (70, v3), (71, .int .i64 (x2.1.length : Int)), (72, .int .i64 c22_0)] hf_ ?_
                    unfold s_Ev_Put_j5 at hs
                    refine WP.region ?_
                    refine WO.val (PO.add rfl rfl) rfl ?_
                    refine WO.val (PO.move rfl) rfl ?_
                    refine WO.nil ?_
                    exact ⟨c22_k, _, Nat.lt_succ_self _, ⟨(IntKind.i64.wrap (c22_0 + 1)), ⟨rfl, rfl, rfl, rfl, rfl, rfl, rfl, rfl, trivial⟩, rfl, hs⟩, fun _ s => s.pre⟩
                · replace hs := cond_f h23 hs
                  refine WP.exit (inX.hit ?_)
                  refine WP.seq ?_
                  refine WP.region ?_
                  refine WO.val (PO.move rfl) rfl ?_
                  refine WO.val (PO.move rfl) rfl ?_
                  refine WO.val (PO.move rfl) rfl ?_
                  refine WO.val (PO.makeFunc (us := []) (vs := [.pointer (some ⟨b16, 0, none⟩)]) rfl rfl) rfl ?_
                  refine WO.heap [stAt p0 S, slc 3 1 v_1 s.length (fl ic s), slc 9 1 v_2 roots.length (fl sc roots), slc 3 1 v_3 list.length (fl ic list), F, slc 3 1 (nils 1) ([] : List Int).length (fl ic ([] : List Int)), slc 3 1 v3 x2.1.length (fl ic x2.1), slc 3 1 v7 x6.1.length (fl ic x6.1), emp, (sep [pt b16 (.cells #[.map (some b15)] 69 (0, 0)), mapAt sv iv b15 c17_1])] (fun _ sw_ => by have h_ := Sat.pack 9 8 rfl rfl sw_; exact h_) ?_
                  obtain ⟨x38, hx38, hs⟩ := bind_elim hs
                  refine WO.step (SO.of rfl (EO.callX [0, 1, 9] Tryz.call28 rfl rfl (t_remadeS hlf_Put hx38) (fun _ => ⟨rfl, rfl, rfl, trivial⟩))) rfl ?_
                  rintro _ _ ⟨v39, rfl, rfl⟩
                  refine WO.toL [stAt p0 x38.1, slc 3 1 v_1 s.length (fl ic s), slc 9 1 v_2 roots.length (fl sc roots), slc 3 1 v_3 list.length (fl ic list), F, slc 3 1 (nils 1) ([] : List Int).length (fl ic ([] : List Int)), slc 3 1 v3 x2.1.length (fl ic x2.1), slc 3 1 v7 x6.1.length (fl ic x6.1), emp, (sep [pt b16 (.cells #[.map (some b15)] 69 (0, 0)), mapAt sv iv b15 c17_1]), slc 3 1 v39 x38.2.1.length (fl ic x38.2.1)] rfl ?_
                  refine WO.val (PO.move rfl) rfl ?_
                  refine WO.val (PO.extract rfl rfl) rfl ?_
                  refine WO.val (PO.extract rfl rfl) rfl ?_
                  refine WO.val (PO.assign rfl) rfl ?_
                  refine WO.val (PO.assign rfl) rfl ?_
                  refine WO.nil ?_
                  refine WP.seq ?_
                  refine WP.region ?_
                  refine WO.val (PO.move rfl) rfl ?_
                  refine WO.val (PO.move rfl) rfl ?_
                  obtain ⟨x40, hx40, hs⟩ := lt_elim hs
                  refine WO.vo (VO.call0 Tryz.call30 rfl (t_Ev_number hx40)) rfl ?_
                  refine WO.val (PO.assign rfl) rfl ?_
                  refine WO.val (PO.assign rfl) rfl ?_
                  refine WO.nil ?_
                  refine WP.ret ?_
                  obtain rfl := Option.some.inj hs
                  exact ⟨_, v39, _, _, rfl, Res.two (RV.tmp rfl) (RV.tmp rfl), rfl, fun _ s => Sat.out [0, 1, 2, 3, 10, 4] rfl s⟩
attribute [irreducible] s_Ev_Put

end Go.Proofs.YtlnionilhagenaaGreatDoor
