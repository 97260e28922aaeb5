/- Printed by gen.py (my own program): Lean functions with the answers of the Go functions, and the proofs that the code comes to them. -/
import Derived.Test.YtlnionilhagenaaGreatDoorDld
namespace Go.Proofs.YtlnionilhagenaaGreatDoor
open Go.RowKit
set_option linter.all false
set_option maxRecDepth 100000
set_option maxHeartbeats 4000000
theorem Tryz.mixedLd : Tryz.prog.follows .mixedOrders = true := by kernel_rfl

/- cadence/term.Load -/
def s_Load_j6 (c14_2 : Int) (rec_s_Load_l41 : Int → Bool → Int → Rd → (List Int) → Option (Except Int (St × List Int))) (j16_0 : Bool) (j16_1 : Rd) (j16_3 : List Int) (j16_4 : Int) : Option (Except Int (St × List Int)) :=
  rec_s_Load_l41 j16_4 j16_0 (IntKind.i64.wrap (c14_2 + 1)) j16_1 j16_3
def s_Load_l49 (k : Nat) (c14_2 : Int) (rec_s_Load_l41 : Int → Bool → Int → Rd → (List Int) → Option (Except Int (St × List Int))) : Nat → Rd → (List Int) → Option (Except Int (St × List Int))
  | 0, _, _ => none
  | c30_k + 1, c30_0, c30_2 =>
    cond (decide (0 < (c30_0.w.length : Int)))
      (exc (s_Rd_part k (⟨c30_0.w, c30_0.terms, c30_0.st⟩ : Rd)) fun x33 =>
      if (c30_2.length + 1) * 8 ≤ 140737488355328 then (s_Load_l49 k c14_2 rec_s_Load_l41 c30_k x33.1 (c30_2 ++ [x33.2])) else none)
      (s_Load_j6 c14_2 (rec_s_Load_l41) true (⟨c30_0.w, c30_0.terms, c30_0.st⟩ : Rd) c30_2 (IntKind.i64.wrap (c14_2 + 1)))
def s_Load_l41 (k : Nat) (j12_1 : List ByteArray) : Nat → Int → Bool → Int → Rd → (List Int) → Option (Except Int (St × List Int))
  | 0, _, _, _, _, _ => none
  | c14_k + 1, c14_0, c14_1, c14_2, c14_3, c14_5 =>
    cond (decide (c14_2 < (j12_1.length : Int)))
      ((getI j12_1 c14_2).bind fun x17 =>
      (s_FieldsFunc x17).bind fun x18 =>
      cond (c14_1 || ((x18.length : Int) == 0))
        (some (.error 3))
        ((getI x18 0).bind fun x27 =>
        cond (x27.toList == (ByteArray.mk #[114, 111, 111, 116, 115]).toList)
          (exc (s_Rd_next (⟨x18, c14_3.terms, c14_3.st⟩ : Rd)) fun x29 =>
          s_Load_l49 k c14_2 (s_Load_l41 k j12_1 c14_k) k x29.1 c14_5)
          (exc (s_Rd_number k (⟨x18, c14_3.terms, c14_3.st⟩ : Rd)) fun x35 =>
          cond (x35.2 != (IntKind.i64.wrap (c14_2 + 1)))
            (some (.error 3))
            (exc (s_Rd_node k x35.1) fun x37 =>
            if (x37.1.terms.length + 1) * 8 ≤ 140737488355328 then (s_Load_j6 c14_2 (s_Load_l41 k j12_1 c14_k) c14_1 (⟨x37.1.w, (x37.1.terms ++ [x37.2]), x37.1.st⟩ : Rd) c14_5 (IntKind.i64.wrap (c14_2 + 1))) else none))))
      (cond (!c14_1)
        (some (.error 3))
        (some (.ok (c14_3.st, c14_5))))
def s_Load_j0 (k : Nat) (x5 : (St × Int)) (j12_1 : List ByteArray) : Option (Except Int (St × List Int)) :=
  s_Load_l41 k j12_1 k 0 false 0 (⟨[], [], x5.1⟩ : Rd) ([] : List Int)
def s_Load (k : Nat) (text : ByteArray) (limit : Int) : Option (Except Int (St × List Int)) :=
  (s_New limit).bind fun x5 =>
  cond (x5.2 != 0)
    (none)
    ((s_strings_Split text (ByteArray.mk #[10])).bind fun x10 =>
    (getI x10 (IntKind.i64.wrap ((x10.length : Int) - 1))).bind fun x43 =>
    cond (x43.toList == (ByteArray.mk #[]).toList)
      (if 0 ≤ (IntKind.i64.wrap ((x10.length : Int) - 1)) ∧ (IntKind.i64.wrap ((x10.length : Int) - 1)) ≤ (x10.length : Int) then (s_Load_j0 k x5 (x10.take (IntKind.i64.wrap ((x10.length : Int) - 1)).toNat)) else none)
      (s_Load_j0 k x5 x10))
theorem t_Load [GlobFix] {k : Nat} {text : ByteArray} {limit : Int} {r : Except Int (St × List Int)} (hs : s_Load k text limit = some r) :
    TriX Tryz.prog 23 [.string text, .int .i64 limit] [gl] (.ok r) faultV valL postL := by
  unfold s_Load at hs
  refine TriX.ofLoad Tryz.func23 rfl Tryz.ntmps23 Tryz.results23 (fun w0 F => ?_)
  refine WPD.seq ?_
  refine WP.region ?_
  refine WO.step (SO.of rfl (EO.alloc Tryz.zeroValue23)) rfl ?_
  rintro _ _ ⟨b1, rfl, rfl⟩
  refine WO.toL [gl, F, pt b1 (.cells #[.pointer none] 23 (0, 0))] rfl ?_
  refine WO.heap [gl, F, pt b1 (.cells #[.pointer none] 23 (0, 0)), slc 3 1 (nils 2) ([] : List Int).length (fl ic ([] : List Int))] (fun _ s => s.addNil 3 1 2) ?_
  refine WO.step (SO.of rfl (EO.alloc Tryz.zeroValue24)) rfl ?_
  rintro _ _ ⟨b3, rfl, rfl⟩
  refine WO.toL [gl, F, pt b1 (.cells #[.pointer none] 23 (0, 0)), slc 3 1 (nils 2) ([] : List Int).length (fl ic ([] : List Int)), pt b3 (.cells #[(nils 2)] 24 (0, 0))] rfl ?_
  refine WO.val (PO.assign rfl) rfl ?_
  refine WO.step (SO.of rfl (EO.alloc Tryz.zeroValue28)) rfl ?_
  rintro _ _ ⟨b4, rfl, rfl⟩
  refine WO.toL [gl, F, pt b1 (.cells #[.pointer none] 23 (0, 0)), slc 3 1 (nils 2) ([] : List Int).length (fl ic ([] : List Int)), pt b3 (.cells #[(nils 2)] 24 (0, 0)), pt b4 (.cells #[.int .i64 0] 28 (0, 0))] rfl ?_
  refine WO.nil ?_
  refine WPD.seq ?_
  refine WP.region ?_
  refine WO.val (PO.move rfl) rfl ?_
  obtain ⟨x5, hx5, hs⟩ := bind_elim hs
  refine WO.step (SO.of rfl (EO.callX [] Tryz.call20 rfl rfl (t_New hx5) (fun _ => trivial))) rfl ?_
  rintro _ _ ⟨b6, rfl, rfl⟩
  refine WO.toL [gl, F, pt b1 (.cells #[.pointer none] 23 (0, 0)), slc 3 1 (nils 2) ([] : List Int).length (fl ic ([] : List Int)), pt b3 (.cells #[(nils 2)] 24 (0, 0)), pt b4 (.cells #[.int .i64 0] 28 (0, 0)), stAt b6 x5.1] rfl ?_
  refine WO.val (PO.move rfl) rfl ?_
  refine WO.val (PO.extract rfl rfl) rfl ?_
  refine WO.val (PO.extract rfl rfl) rfl ?_
  refine WO.step (SO.of rfl (EO.store 2 _ rfl rfl Tryz.sizeOf23 rfl rfl rfl rfl)) rfl ?_
  rintro _ _ rfl
  refine WO.toL [gl, F, pt b1 (.cells #[.pointer (some ⟨b6, 0, none⟩)] 23 (0, 0)), slc 3 1 (nils 2) ([] : List Int).length (fl ic ([] : List Int)), pt b3 (.cells #[(nils 2)] 24 (0, 0)), pt b4 (.cells #[.int .i64 0] 28 (0, 0)), stAt b6 x5.1] rfl ?_
  refine WO.step (SO.of rfl (EO.store 5 _ rfl rfl Tryz.sizeOf28 rfl rfl rfl rfl)) rfl ?_
  rintro _ _ rfl
  refine WO.toL [gl, F, pt b1 (.cells #[.pointer (some ⟨b6, 0, none⟩)] 23 (0, 0)), slc 3 1 (nils 2) ([] : List Int).length (fl ic ([] : List Int)), pt b3 (.cells #[(nils 2)] 24 (0, 0)), pt b4 (.cells #[.int .i64 x5.2] 28 (0, 0)), stAt b6 x5.1] rfl ?_
  refine WO.nil ?_
  refine WPD.seq ?_
  refine WP.seq ?_
  refine WP.region ?_
  refine WO.val (PO.load 5 rfl Tryz.isAgg28 rfl rfl) rfl ?_
  refine WO.val (PO.neq rfl rfl) rfl ?_
  refine WO.nil ?_
  refine WP.cond rfl (fun h7 => ?_) (fun h7 => ?_)
  · replace hs := cond_t h7 hs
    refine WP.seq ?_
    refine WP.heap [gl, F, pt b1 (.cells #[.pointer (some ⟨b6, 0, none⟩)] 23 (0, 0)), slc 3 1 (nils 2) ([] : List Int).length (fl ic ([] : List Int)), pt b3 (.cells #[(nils 2)] 24 (0, 0)), pt b4 (.cells #[.int .i64 x5.2] 28 (0, 0)), stAt b6 x5.1, slc 3 1 (nils 8) ([] : List Int).length (fl ic ([] : List Int))] (fun _ s => s.addNil 3 1 8) ?_
    refine WP.draw (γ := Unit) Tryz.mixedLd [some 21, none, none, some 6, none] rfl [(0, .string text), (4, .pointer (some ⟨b1, 0, none⟩)), (5, .pointer (some ⟨b3, 0, none⟩)), (7, .pointer (some ⟨b4, 0, none⟩))] ⟨rfl, rfl, rfl, rfl, trivial⟩ (fun g9 => [.int .i64 x5.2, undef, undef, .int .i64 0, undef]) [⟨[], 0, 2, false⟩, ⟨[], 0, 0, true⟩, ⟨[], 1, 0, true⟩, ⟨[], 2, 0, false⟩, ⟨[0, 0], 2, 0, true⟩] [1, 2, 4] (fun g9 => [[gl, F, pt b1 (.cells #[.pointer (some ⟨b6, 0, none⟩)] 23 (0, 0)), slc 3 1 (nils 2) ([] : List Int).length (fl ic ([] : List Int)), pt b3 (.cells #[(nils 2)] 24 (0, 0)), pt b4 (.cells #[.int .i64 x5.2] 28 (0, 0)), stAt b6 x5.1, slc 3 1 (nils 8) ([] : List Int).length (fl ic ([] : List Int))], [gl, F, pt b1 (.cells #[.pointer none] 23 (0, 0)), slc 3 1 (nils 2) ([] : List Int).length (fl ic ([] : List Int)), pt b3 (.cells #[(nils 2)] 24 (0, 0)), pt b4 (.cells #[.int .i64 x5.2] 28 (0, 0)), stAt b6 x5.1, slc 3 1 (nils 8) ([] : List Int).length (fl ic ([] : List Int))], [gl, F, pt b1 (.cells #[.pointer none] 23 (0, 0)), slc 3 1 (nils 2) ([] : List Int).length (fl ic ([] : List Int)), pt b3 (.cells #[(nils 8)] 24 (0, 0)), pt b4 (.cells #[.int .i64 x5.2] 28 (0, 0)), stAt b6 x5.1, slc 3 1 (nils 8) ([] : List Int).length (fl ic ([] : List Int))], [gl, F, pt b1 (.cells #[.pointer none] 23 (0, 0)), slc 3 1 (nils 2) ([] : List Int).length (fl ic ([] : List Int)), pt b3 (.cells #[(nils 8)] 24 (0, 0)), pt b4 (.cells #[.int .i64 x5.2] 28 (0, 0)), stAt b6 x5.1, slc 3 1 (nils 8) ([] : List Int).length (fl ic ([] : List Int))]]) rfl rfl rfl ⟨⟨(fun g9 => SO.at (SO.val (PO.load 5 rfl Tryz.isAgg28 rfl rfl) rfl) rfl rfl), (fun g9 => SO.at (SO.val (PO.load 5 rfl Tryz.isAgg28 rfl rfl) rfl) rfl rfl), (fun g9 => SO.at (SO.val (PO.load 5 rfl Tryz.isAgg28 rfl rfl) rfl) rfl rfl)⟩, (fun g9 => SO.eff (EO.store 2 _ rfl rfl Tryz.sizeOf23 rfl rfl rfl rfl) rfl fun _ _ e2 => ⟨g9, fun h_ => absurd (show false = true from h_) Bool.false_ne_true, e2.trans rfl, (AgreeM_refl _ _ rfl)⟩), (fun g9 => SO.eff (EO.storeS 4 7 _ rfl rfl rfl Tryz.sizeOf24 rfl rfl rfl) rfl fun _ _ e2 => ⟨g9, fun h_ => absurd (show false = true from h_) Bool.false_ne_true, e2.trans rfl, (AgreeM_refl _ _ rfl)⟩), (fun g9 => SO.at (SO.val (PO.assign rfl) rfl) rfl rfl), (fun g9 => SO.eff (EO.store 5 _ rfl rfl Tryz.sizeOf28 rfl rfl rfl rfl) rfl fun _ _ e2 => ⟨g9, fun h_ => absurd (show false = true from h_) Bool.false_ne_true, e2.trans rfl, (AgreeM_refl _ _ rfl)⟩), trivial⟩ (fun g9 => [gl, F, pt b1 (.cells #[.pointer none] 23 (0, 0)), slc 3 1 (nils 2) ([] : List Int).length (fl ic ([] : List Int)), pt b3 (.cells #[(nils 8)] 24 (0, 0)), pt b4 (.cells #[.int .i64 x5.2] 28 (0, 0)), stAt b6 x5.1, slc 3 1 (nils 8) ([] : List Int).length (fl ic ([] : List Int))]) (fun _ => rfl) (fun g9 => [(21, .int .i64 x5.2), (6, .int .i64 0), (0, .string text), (4, .pointer (some ⟨b1, 0, none⟩)), (5, .pointer (some ⟨b3, 0, none⟩)), (7, .pointer (some ⟨b4, 0, none⟩))]) (fun _ => rfl) (fun g9 => ?_)
    refine WP.ret ?_
    cases hs
  · replace hs := cond_f h7 hs
    refine WP.skip ?_
    refine WPD.seq ?_
    refine WP.region ?_
    refine WO.val (PO.move rfl) rfl ?_
    obtain ⟨x10, hx10, hs⟩ := bind_elim hs
    refine WO.step (SO.of rfl (EO.callX [0] Tryz.call45 rfl rfl (t_strings_Split hx10) (fun _ => ⟨rfl, trivial⟩))) rfl ?_
    rintro v11 _ ⟨_, rfl, rfl⟩
    refine WO.toL [gl, F, pt b1 (.cells #[.pointer (some ⟨b6, 0, none⟩)] 23 (0, 0)), slc 3 1 (nils 2) ([] : List Int).length (fl ic ([] : List Int)), pt b3 (.cells #[(nils 2)] 24 (0, 0)), pt b4 (.cells #[.int .i64 x5.2] 28 (0, 0)), stAt b6 x5.1, slc 9 1 v11 x10.length (fl sc x10)] rfl ?_
    refine WO.val (PO.assign rfl) rfl ?_
    refine WO.nil ?_
    refine WPD.seq ?_
    refine WPD.join (fun f_ L_ => ∃ (j12_0 : Value) (j12_1 : List ByteArray), Holds f_ [(4, .pointer (some ⟨b1, 0, none⟩)), (5, .pointer (some ⟨b3, 0, none⟩)), (6, .int .i64 0), (7, .pointer (some ⟨b4, 0, none⟩)), (8, j12_0)] ∧ L_ = [gl, F, pt b1 (.cells #[.pointer (some ⟨b6, 0, none⟩)] 23 (0, 0)), slc 3 1 (nils 2) ([] : List Int).length (fl ic ([] : List Int)), pt b3 (.cells #[(nils 2)] 24 (0, 0)), pt b4 (.cells #[.int .i64 x5.2] 28 (0, 0)), stAt b6 x5.1, slc 9 1 j12_0 j12_1.length (fl sc j12_1)] ∧ s_Load_j0 k x5 j12_1 = some r) ?_ ?_
    · refine WP.seq ?_
      refine WP.region ?_
      refine WO.val (PO.move rfl) rfl ?_
      refine WO.val (PO.move rfl) rfl ?_
      refine WO.val (PO.lenL 7 rfl Tryz.runUnderlying41 rfl) rfl ?_
      refine WO.val (PO.sub rfl rfl) rfl ?_
      obtain ⟨x43, hx43, hs⟩ := bind_elim hs
      refine WO.val (PO.idxL 7 rfl rfl Tryz.runUnderlying41 Tryz.sizeOf9 rfl hx43) rfl ?_
      refine WO.val (PO.loadL 7 rfl Tryz.isAgg9 rfl (fl_at (c := sc) (k := 1) (j := 0) (fun _ => rfl) hx43 rfl)) rfl ?_
      refine WO.val (PO.seql rfl rfl) rfl ?_
      refine WO.nil ?_
      refine WP.cond rfl (fun h44 => ?_) (fun h44 => ?_)
      · replace hs := cond_t h44 hs
        refine WP.region ?_
        refine WO.val (PO.move rfl) rfl ?_
        refine WO.val (PO.move rfl) rfl ?_
        refine WO.val (PO.lenL 7 rfl Tryz.runUnderlying41 rfl) rfl ?_
        refine WO.val (PO.sub rfl rfl) rfl ?_
        obtain ⟨hc45, hs⟩ := check_elim hs
        refine WO.step (SO.of rfl (EO.sliceTo (c := sc) 7 (fun _ => rfl) rfl rfl Tryz.underlying41 Tryz.sizeOf9 rfl hc45)) rfl ?_
        rintro _ _ ⟨rfl, rfl⟩
        refine WO.toL [gl, F, pt b1 (.cells #[.pointer (some ⟨b6, 0, none⟩)] 23 (0, 0)), slc 3 1 (nils 2) ([] : List Int).length (fl ic ([] : List Int)), pt b3 (.cells #[(nils 2)] 24 (0, 0)), pt b4 (.cells #[.int .i64 x5.2] 28 (0, 0)), stAt b6 x5.1, slc 9 1 (sliceTo v11 (IntKind.i64.wrap ((x10.length : Int) - 1)).toNat) (x10.take (IntKind.i64.wrap ((x10.length : Int) - 1)).toNat).length (fl sc (x10.take (IntKind.i64.wrap ((x10.length : Int) - 1)).toNat))] rfl ?_
        refine WO.val (PO.assign rfl) rfl ?_
        refine WO.nil ?_
        exact ⟨_, ⟨(sliceTo v11 (IntKind.i64.wrap ((x10.length : Int) - 1)).toNat), (x10.take (IntKind.i64.wrap ((x10.length : Int) - 1)).toNat), ⟨rfl, rfl, rfl, rfl, rfl, trivial⟩, rfl, hs⟩, fun _ s => s⟩
      · replace hs := cond_f h44 hs
        refine WP.skip ?_
        exact ⟨_, ⟨v11, x10, ⟨rfl, rfl, rfl, rfl, rfl, trivial⟩, rfl, hs⟩, fun _ s => s⟩
    · rintro f_ L_ ⟨j12_0, j12_1, hf_, rfl, hs⟩
      refine WPD.keep [(4, .pointer (some ⟨b1, 0, none⟩)), (5, .pointer (some ⟨b3, 0, none⟩)), (6, .int .i64 0), (7, .pointer (some ⟨b4, 0, none⟩)), (8, j12_0)] hf_ ?_
      unfold s_Load_j0 at hs
      refine WPD.defer (b1, b3, b4) (PO.makeFunc (us := []) (vs := [.pointer (some ⟨b1, 0, none⟩), .pointer (some ⟨b3, 0, none⟩), .pointer (some ⟨b4, 0, none⟩)]) rfl rfl) (by decide) rfl rfl ?_
      refine WP.seq ?_
      refine WP.region ?_
      refine WO.val (PO.load 2 rfl Tryz.isAgg23 rfl rfl) rfl ?_
      refine WO.val (PO.build (v := .agg #[.pointer (some ⟨b6, 0, none⟩), .slice none 0 0, .slice none 0 0]) rfl (fun w => by simp [Instr.build, Instr.fill, Value.cells, addr_add', Tryz.zeroValue108, Tryz.runUnderlying108, Tryz.sizeOf23, Tryz.sizeOf24, Tryz.sizeOf41])) rfl ?_
      refine WO.step (SO.of rfl (EO.box rfl)) rfl ?_
      rintro _ _ ⟨b13, rfl, rfl⟩
      refine WO.toL [gl, F, pt b1 (.cells #[.pointer (some ⟨b6, 0, none⟩)] 23 (0, 0)), slc 3 1 (nils 2) ([] : List Int).length (fl ic ([] : List Int)), pt b3 (.cells #[(nils 2)] 24 (0, 0)), pt b4 (.cells #[.int .i64 x5.2] 28 (0, 0)), stAt b6 x5.1, slc 9 1 j12_0 j12_1.length (fl sc j12_1), pt b13 (.cells #[.pointer (some ⟨b6, 0, none⟩), .slice none 0 0, .slice none 0 0] 108 (0, 0))] rfl ?_
      refine WO.heap [rdAt b13 b6 (⟨[], [], x5.1⟩ : Rd), gl, F, pt b1 (.cells #[.pointer (some ⟨b6, 0, none⟩)] 23 (0, 0)), slc 3 1 (nils 2) ([] : List Int).length (fl ic ([] : List Int)), pt b3 (.cells #[(nils 2)] 24 (0, 0)), pt b4 (.cells #[.int .i64 x5.2] 28 (0, 0)), emp, slc 9 1 j12_0 j12_1.length (fl sc j12_1), emp] (fun _ sw_ => Sat.mkRd 8 6 rfl sw_) ?_
      refine WO.val (PO.assign rfl) rfl ?_
      refine WO.nil ?_
      refine WP.seq ?_
      refine WP.region ?_
      refine WO.val (PO.assign rfl) rfl ?_
      refine WO.nil ?_
      refine WP.seq ?_
      refine WP.seq ?_
      refine WP.region ?_
      refine WO.val (PO.move rfl) rfl ?_
      refine WO.val (PO.lenL 8 rfl Tryz.runUnderlying41 rfl) rfl ?_
      refine WO.val (PO.move rfl) rfl ?_
      refine WO.nil ?_
      refine WP.block ?_
      refine WP.loopG (fun c14_k f_ L_ => ∃ (c14_0 : Int) (c14_1 : Bool) (c14_2 : Int) (c14_3 : Rd) (c14_4 : Value) (c14_5 : List Int), Holds f_ [(4, .pointer (some ⟨b1, 0, none⟩)), (5, .pointer (some ⟨b3, 0, none⟩)), (6, .int .i64 c14_0), (7, .pointer (some ⟨b4, 0, none⟩)), (8, j12_0), (9, .pointer (some ⟨b13, 0, none⟩)), (10, .bool c14_1), (40, j12_0), (41, .int .i64 (j12_1.length : Int)), (42, .int .i64 c14_2)] ∧ L_ = [rdAt b13 b6 c14_3, gl, F, pt b1 (.cells #[.pointer (some ⟨b6, 0, none⟩)] 23 (0, 0)), slc 3 1 c14_4 c14_5.length (fl ic c14_5), pt b3 (.cells #[c14_4] 24 (0, 0)), pt b4 (.cells #[.int .i64 x5.2] 28 (0, 0)), emp, slc 9 1 j12_0 j12_1.length (fl sc j12_1), emp] ∧ s_Load_l41 k j12_1 c14_k c14_0 c14_1 c14_2 c14_3 c14_5 = some r) k ⟨0, false, 0, (⟨[], [], x5.1⟩ : Rd), (nils 2), ([] : List Int), ⟨rfl, rfl, rfl, rfl, rfl, rfl, rfl, rfl, rfl, rfl, trivial⟩, rfl, hs⟩ ?_
      rintro c14_k f_ L_ ⟨c14_0, c14_1, c14_2, c14_3, c14_4, c14_5, hf_, rfl, hs⟩
      refine WP.keep [(4, .pointer (some ⟨b1, 0, none⟩)), (5, .pointer (some ⟨b3, 0, none⟩)), (6, .int .i64 c14_0), (7, .pointer (some ⟨b4, 0, none⟩)), (8, j12_0), (9, .pointer (some ⟨b13, 0, none⟩)), (10, .bool c14_1), (40, j12_0), (41, .int .i64 (j12_1.length : Int)), (42, .int .i64 c14_2)] hf_ ?_
      cases c14_k with
      | zero => exact nomatch (show none = some r from hs)
      | succ c14_k =>
        rw [s_Load_l41.eq_2] at hs
        refine WP.seq ?_
        refine WP.region ?_
        refine WO.val (PO.lss rfl rfl) rfl ?_
        refine WO.nil ?_
        refine WP.seq ?_
        refine WP.cond rfl (fun h15 => ?_) (fun h15 => ?_)
        · replace hs := cond_t h15 hs
          refine WP.skip ?_
          refine WP.seq ?_
          refine WP.join (fun f_ L_ => ∃ (j16_0 : Bool) (j16_1 : Rd) (j16_2 : Value) (j16_3 : List Int) (j16_4 : Int), Holds f_ [(4, .pointer (some ⟨b1, 0, none⟩)), (5, .pointer (some ⟨b3, 0, none⟩)), (6, .int .i64 j16_4), (7, .pointer (some ⟨b4, 0, none⟩)), (8, j12_0), (9, .pointer (some ⟨b13, 0, none⟩)), (10, .bool j16_0), (40, j12_0), (41, .int .i64 (j12_1.length : Int)), (42, .int .i64 c14_2)] ∧ L_ = [rdAt b13 b6 j16_1, gl, F, pt b1 (.cells #[.pointer (some ⟨b6, 0, none⟩)] 23 (0, 0)), slc 3 1 j16_2 j16_3.length (fl ic j16_3), pt b3 (.cells #[j16_2] 24 (0, 0)), pt b4 (.cells #[.int .i64 x5.2] 28 (0, 0)), emp, slc 9 1 j12_0 j12_1.length (fl sc j12_1), emp] ∧ s_Load_j6 c14_2 (s_Load_l41 k j12_1 c14_k) j16_0 j16_1 j16_3 j16_4 = some r) ?_ ?_
          · refine WP.block ?_
            refine WP.seq ?_
            refine WP.region ?_
            refine WO.val (PO.move rfl) rfl ?_
            obtain ⟨x17, hx17, hs⟩ := bind_elim hs
            refine WO.val (PO.idxL 8 rfl rfl Tryz.runUnderlying41 Tryz.sizeOf9 rfl hx17) rfl ?_
            refine WO.val (PO.loadL 8 rfl Tryz.isAgg9 rfl (fl_at (c := sc) (k := 1) (j := 0) (fun _ => rfl) hx17 rfl)) rfl ?_
            refine WO.val (PO.assign rfl) rfl ?_
            refine WO.val (PO.assign rfl) rfl ?_
            refine WO.nil ?_
            refine WP.seq ?_
            refine WP.region ?_
            refine WO.val (PO.move rfl) rfl ?_
            refine WO.val (PO.add rfl rfl) rfl ?_
            refine WO.val (PO.assign rfl) rfl ?_
            refine WO.nil ?_
            refine WP.seq ?_
            refine WP.openRd (fun v0 v1 => ?_)
            refine WP.region ?_
            refine WO.val (PO.move rfl) rfl ?_
            refine WO.val (PO.move rfl) rfl ?_
            obtain ⟨x18, hx18, hs⟩ := bind_elim hs
            refine WO.step (SO.of rfl (EO.callX [4] Tryz.call47 rfl rfl (t_FieldsFunc hx18) (fun _ => ⟨rfl, trivial⟩))) rfl ?_
            rintro v19 _ ⟨_, rfl, rfl⟩
            refine WO.toL [pt b13 (.cells #[.pointer (some ⟨b6, 0, none⟩), v0, v1] 108 (0, 0)), slw 9 1 v0 c14_3.w.length (fl sc c14_3.w), slc 3 1 v1 c14_3.terms.length (fl ic c14_3.terms), stAt b6 c14_3.st, gl, F, pt b1 (.cells #[.pointer (some ⟨b6, 0, none⟩)] 23 (0, 0)), slc 3 1 c14_4 c14_5.length (fl ic c14_5), pt b3 (.cells #[c14_4] 24 (0, 0)), pt b4 (.cells #[.int .i64 x5.2] 28 (0, 0)), emp, slc 9 1 j12_0 j12_1.length (fl sc j12_1), emp, slc 9 1 v19 x18.length (fl sc x18)] rfl ?_
            refine WO.val (PO.nilCheck rfl) rfl ?_
            refine WO.val (PO.fieldAddr rfl Tryz.runUnderlying108 rfl Tryz.sizeOf41 rfl) rfl ?_
            refine WO.heap [pt b13 (.cells #[.pointer (some ⟨b6, 0, none⟩), v0, v1] 108 (0, 0)), slw 9 1 v19 x18.length (fl sc x18), slc 3 1 v1 c14_3.terms.length (fl ic c14_3.terms), stAt b6 c14_3.st, gl, F, pt b1 (.cells #[.pointer (some ⟨b6, 0, none⟩)] 23 (0, 0)), slc 3 1 c14_4 c14_5.length (fl ic c14_5), pt b3 (.cells #[c14_4] 24 (0, 0)), pt b4 (.cells #[.int .i64 x5.2] 28 (0, 0)), emp, slc 9 1 j12_0 j12_1.length (fl sc j12_1), emp, emp] (fun _ sw_ => Sat.moveW 1 13 rfl rfl sw_) ?_
            refine WO.step (SO.of rfl (EO.storeW 0 1 _ rfl rfl rfl Tryz.sizeOf41 rfl rfl rfl)) rfl ?_
            rintro _ _ rfl
            refine WO.toL [pt b13 (.cells #[.pointer (some ⟨b6, 0, none⟩), v19, v1] 108 (0, 0)), slw 9 1 v19 x18.length (fl sc x18), slc 3 1 v1 c14_3.terms.length (fl ic c14_3.terms), stAt b6 c14_3.st, gl, F, pt b1 (.cells #[.pointer (some ⟨b6, 0, none⟩)] 23 (0, 0)), slc 3 1 c14_4 c14_5.length (fl ic c14_5), pt b3 (.cells #[c14_4] 24 (0, 0)), pt b4 (.cells #[.int .i64 x5.2] 28 (0, 0)), emp, slc 9 1 j12_0 j12_1.length (fl sc j12_1), emp, emp] rfl ?_
            refine WO.nil ?_
            refine WP.seq ?_
            refine WP.seq ?_
            refine WP.regionG (D := [some 54, some 55, some 56, some 57, some 58, some 59, some 60, some 61, some 62]) rfl ?_
            refine WO.val (PO.move rfl) rfl ?_
            refine WO.val (PO.move rfl) rfl ?_
            refine WO.guardF rfl rfl (fun hg20 => (PO.move rfl).vo) rfl ?_
            refine WO.guardF rfl rfl (fun hg21 => (PO.nilCheck (evg hg21 rfl)).vo) rfl ?_
            refine WO.guardF rfl rfl (fun hg22 => (PO.fieldAddr (evg hg22 rfl) Tryz.runUnderlying108 rfl Tryz.sizeOf41 rfl).vo) rfl ?_
            refine WO.guardF rfl rfl (fun hg23 => (PO.load 0 (evg hg23 rfl) Tryz.isAgg41 rfl rfl).vo) rfl ?_
            refine WO.guardF rfl rfl (fun hg24 => (PO.lenW 1 (evg hg24 rfl) Tryz.runUnderlying41 rfl).vo) rfl ?_
            refine WO.guardF rfl rfl (fun hg25 => (PO.eql (evg hg25 rfl) rfl).vo) rfl ?_
            refine WO.val (PO.pickO rfl rfl rfl) rfl ?_
            refine WO.nil ?_
            refine WP.cond rfl (fun h26 => ?_) (fun h26 => ?_)
            · replace hs := cond_t h26 hs
              refine WP.region ?_
              refine WO.val (PO.build (v := .agg #[.int .i64 3]) rfl (fun w => by simp [Instr.build, Instr.fill, Value.cells, addr_add', Tryz.zeroValue105, Tryz.runUnderlying105, Tryz.sizeOf28])) rfl ?_
              refine WO.val (PO.makeIface rfl Tryz.runUnderlying105 rfl) rfl ?_
              obtain rfl := Option.some.inj hs
              refine WO.step (SO.of rfl (EO.panic rfl ⟨⟨rfl, rfl, rfl⟩, 3, _, _, _, _, rfl, rfl, fun _ s_ => Sat.out (B := [gl, F, _, _]) [4, 5, 6, 8, 9] rfl s_⟩)) rfl ?_
              rintro _ _ h_
              exact h_.elim
            · replace hs := cond_f h26 hs
              refine WP.skip ?_
              refine WP.seq ?_
              refine WP.seq ?_
              refine WP.region ?_
              refine WO.val (PO.move rfl) rfl ?_
              refine WO.val (PO.nilCheck rfl) rfl ?_
              refine WO.val (PO.fieldAddr rfl Tryz.runUnderlying108 rfl Tryz.sizeOf41 rfl) rfl ?_
              refine WO.val (PO.load 0 rfl Tryz.isAgg41 rfl rfl) rfl ?_
              obtain ⟨x27, hx27, hs⟩ := bind_elim hs
              refine WO.val (PO.idxW 1 rfl rfl Tryz.runUnderlying41 Tryz.sizeOf9 rfl hx27) rfl ?_
              refine WO.val (PO.loadW 1 rfl Tryz.isAgg9 rfl (fl_at (c := sc) (k := 1) (j := 0) (fun _ => rfl) hx27 rfl)) rfl ?_
              refine WO.val (PO.seql rfl rfl) rfl ?_
              refine WO.nil ?_
              refine WP.cond rfl (fun h28 => ?_) (fun h28 => ?_)
              · replace hs := cond_t h28 hs
                refine WP.seq ?_
                refine WP.heap [rdAt b13 b6 (⟨x18, c14_3.terms, c14_3.st⟩ : Rd), gl, F, pt b1 (.cells #[.pointer (some ⟨b6, 0, none⟩)] 23 (0, 0)), slc 3 1 c14_4 c14_5.length (fl ic c14_5), pt b3 (.cells #[c14_4] 24 (0, 0)), pt b4 (.cells #[.int .i64 x5.2] 28 (0, 0)), emp, slc 9 1 j12_0 j12_1.length (fl sc j12_1), emp, emp] (fun _ s => rdAt_close (u := (⟨x18, c14_3.terms, c14_3.st⟩ : Rd)) s) ?_
                refine WP.region ?_
                refine WO.val (PO.move rfl) rfl ?_
                rcases exc_elim hs with ⟨q_, hx29, rfl⟩ | ⟨x29, hx29, hs⟩
                · refine WO.step (SO.of rfl (EO.callE [0] Tryz.call49 rfl rfl (t_Rd_next hx29) ⟨⟨rfl, rfl, rfl⟩, q_, _, _, _, _, rfl, rfl, fun _ s_ => Sat.out (B := [gl, F, _, _]) [2, 3, 4, 6, 7] rfl s_⟩)) rfl ?_
                  rintro _ _ h_
                  exact h_.elim
                refine WO.step (SO.of rfl (EO.callX [0] Tryz.call49 rfl rfl (t_Rd_next hx29) (fun _ => ⟨rfl, trivial⟩))) rfl ?_
                rintro _ _ ⟨_, rfl, rfl⟩
                refine WO.toL [rdAt b13 b6 x29.1, gl, F, pt b1 (.cells #[.pointer (some ⟨b6, 0, none⟩)] 23 (0, 0)), slc 3 1 c14_4 c14_5.length (fl ic c14_5), pt b3 (.cells #[c14_4] 24 (0, 0)), pt b4 (.cells #[.int .i64 x5.2] 28 (0, 0)), emp, slc 9 1 j12_0 j12_1.length (fl sc j12_1), emp, emp] rfl ?_
                refine WO.nil ?_
                refine WP.seq ?_
                refine WP.block ?_
                refine WP.loopG (fun c30_k f_ L_ => ∃ (c30_0 : Rd) (c30_1 : Value) (c30_2 : List Int), Holds f_ [(4, .pointer (some ⟨b1, 0, none⟩)), (5, .pointer (some ⟨b3, 0, none⟩)), (6, .int .i64 (IntKind.i64.wrap (c14_2 + 1))), (7, .pointer (some ⟨b4, 0, none⟩)), (8, j12_0), (9, .pointer (some ⟨b13, 0, none⟩)), (10, .bool c14_1), (40, j12_0), (41, .int .i64 (j12_1.length : Int)), (42, .int .i64 c14_2), (11, .int .i64 c14_2), (56, gd (!c14_1) (.pointer (some ⟨b13, 0, none⟩))), (57, gd (!c14_1) (.pointer (some ⟨b13, 0, none⟩))), (58, gd (!c14_1) (.pointer (some ⟨b13, 1, none⟩))), (59, gd (!c14_1) (v19)), (60, gd (!c14_1) (.int .i64 (x18.length : Int))), (61, gd (!c14_1) (.bool ((x18.length : Int) == 0)))] ∧ L_ = [rdAt b13 b6 c30_0, gl, F, pt b1 (.cells #[.pointer (some ⟨b6, 0, none⟩)] 23 (0, 0)), slc 3 1 c30_1 c30_2.length (fl ic c30_2), pt b3 (.cells #[c30_1] 24 (0, 0)), pt b4 (.cells #[.int .i64 x5.2] 28 (0, 0)), emp, slc 9 1 j12_0 j12_1.length (fl sc j12_1), emp, emp] ∧ s_Load_l49 k c14_2 (s_Load_l41 k j12_1 c14_k) c30_k c30_0 c30_2 = some r) k ⟨x29.1, c14_4, c14_5, ⟨rfl, rfl, rfl, rfl, rfl, rfl, rfl, rfl, rfl, rfl, rfl, rfl, rfl, rfl, rfl, rfl, rfl, trivial⟩, rfl, hs⟩ ?_
                rintro c30_k f_ L_ ⟨c30_0, c30_1, c30_2, hf_, rfl, hs⟩
                refine WP.keep [(4, .pointer (some ⟨b1, 0, none⟩)), (5, .pointer (some ⟨b3, 0, none⟩)), (6, .int .i64 (IntKind.i64.wrap (c14_2 + 1))), (7, .pointer (some ⟨b4, 0, none⟩)), (8, j12_0), (9, .pointer (some ⟨b13, 0, none⟩)), (10, .bool c14_1), (40, j12_0), (41, .int .i64 (j12_1.length : Int)), (42, .int .i64 c14_2), (11, .int .i64 c14_2), (56, gd (!c14_1) (.pointer (some ⟨b13, 0, none⟩))), (57, gd (!c14_1) (.pointer (some ⟨b13, 0, none⟩))), (58, gd (!c14_1) (.pointer (some ⟨b13, 1, none⟩))), (59, gd (!c14_1) (v19)), (60, gd (!c14_1) (.int .i64 (x18.length : Int))), (61, gd (!c14_1) (.bool ((x18.length : Int) == 0)))] hf_ ?_
                cases c30_k with
                | zero => exact nomatch (show none = some r from hs)
                | succ c30_k =>
                  rw [s_Load_l49.eq_2] at hs
                  refine WP.seq ?_
                  refine WP.seq ?_
                  refine WP.openRd (fun v0 v1 => ?_)
                  refine WP.region ?_
                  refine WO.val (PO.move rfl) rfl ?_
                  refine WO.val (PO.nilCheck rfl) rfl ?_
                  refine WO.val (PO.fieldAddr rfl Tryz.runUnderlying108 rfl Tryz.sizeOf41 rfl) rfl ?_
                  refine WO.val (PO.load 0 rfl Tryz.isAgg41 rfl rfl) rfl ?_
                  refine WO.val (PO.lenW 1 rfl Tryz.runUnderlying41 rfl) rfl ?_
                  refine WO.val (PO.gtr rfl rfl) rfl ?_
                  refine WO.nil ?_
                  refine WP.cond rfl (fun h31 => ?_) (fun h31 => ?_)
                  · replace hs := cond_t h31 hs
                    refine WP.skip ?_
                    refine WP.block ?_
                    refine WP.heap [rdAt b13 b6 (⟨c30_0.w, c30_0.terms, c30_0.st⟩ : Rd), gl, F, pt b1 (.cells #[.pointer (some ⟨b6, 0, none⟩)] 23 (0, 0)), slc 3 1 c30_1 c30_2.length (fl ic c30_2), pt b3 (.cells #[c30_1] 24 (0, 0)), pt b4 (.cells #[.int .i64 x5.2] 28 (0, 0)), emp, slc 9 1 j12_0 j12_1.length (fl sc j12_1), emp, emp] (fun _ s => rdAt_close (u := (⟨c30_0.w, c30_0.terms, c30_0.st⟩ : Rd)) s) ?_
                    rcases exc_elim hs with ⟨q_, hx33, rfl⟩ | ⟨x33, hx33, hs⟩
                    · refine WP.never (WP.draw (γ := Unit) Tryz.mixedLd [some 80, some 81, some 82, some 83, some 84, none] rfl [(4, .pointer (some ⟨b1, 0, none⟩)), (5, .pointer (some ⟨b3, 0, none⟩)), (6, .int .i64 (IntKind.i64.wrap (c14_2 + 1))), (7, .pointer (some ⟨b4, 0, none⟩)), (8, j12_0), (9, .pointer (some ⟨b13, 0, none⟩)), (10, .bool c14_1), (40, j12_0), (41, .int .i64 (j12_1.length : Int)), (42, .int .i64 c14_2), (11, .int .i64 c14_2), (56, gd (!c14_1) (.pointer (some ⟨b13, 0, none⟩))), (57, gd (!c14_1) (.pointer (some ⟨b13, 0, none⟩))), (58, gd (!c14_1) (.pointer (some ⟨b13, 1, none⟩))), (59, gd (!c14_1) (v19)), (60, gd (!c14_1) (.int .i64 (x18.length : Int))), (61, gd (!c14_1) (.bool ((x18.length : Int) == 0)))] ⟨rfl, rfl, rfl, rfl, rfl, rfl, rfl, rfl, rfl, rfl, rfl, rfl, rfl, rfl, rfl, rfl, rfl, trivial⟩ (fun _ => [c30_1, .pointer (some ⟨b13, 0, none⟩), undef, undef, undef, undef]) [⟨[], 0, 2, false⟩, ⟨[], 0, 0, false⟩, ⟨[1], 0, 0, true⟩, ⟨[2], 1, 0, true⟩, ⟨[0, 3], 2, 0, true⟩, ⟨[4, 4, 4], 3, 0, true⟩] [2, 3, 4, 5] (fun _ => [[rdAt b13 b6 (⟨c30_0.w, c30_0.terms, c30_0.st⟩ : Rd), gl, F, pt b1 (.cells #[.pointer (some ⟨b6, 0, none⟩)] 23 (0, 0)), slc 3 1 c30_1 c30_2.length (fl ic c30_2), pt b3 (.cells #[c30_1] 24 (0, 0)), pt b4 (.cells #[.int .i64 x5.2] 28 (0, 0)), emp, slc 9 1 j12_0 j12_1.length (fl sc j12_1), emp, emp], [nev], [nev], [nev], [nev]]) rfl rfl rfl ⟨⟨(fun _ => SO.at (SO.val (PO.load 5 rfl Tryz.isAgg24 rfl rfl) rfl) rfl rfl), (fun _ => SO.no rfl), (fun _ => SO.no rfl)⟩, (fun _ => SO.at (SO.val (PO.move rfl) rfl) rfl rfl), (fun _ => SO.eff (EO.callE [0, 1] Tryz.call50 rfl rfl (t_Rd_part hx33) ⟨⟨rfl, rfl, rfl⟩, q_, _, _, _, _, rfl, rfl, fun _ s_ => Sat.out (B := [gl, F, _, _]) [0, 3, 4, 6, 7] rfl s_⟩) rfl fun _ _ h_ => h_.elim), (fun _ => SO.no rfl), (fun _ => SO.no rfl), (fun _ => SO.no rfl), trivial⟩ (fun _ => [nev]) (fun _ => rfl) (fun _ => [(80, c30_1), (81, .pointer (some ⟨b13, 0, none⟩)), (82, undef), (83, undef), (84, undef), (4, .pointer (some ⟨b1, 0, none⟩)), (5, .pointer (some ⟨b3, 0, none⟩)), (6, .int .i64 (IntKind.i64.wrap (c14_2 + 1))), (7, .pointer (some ⟨b4, 0, none⟩)), (8, j12_0), (9, .pointer (some ⟨b13, 0, none⟩)), (10, .bool c14_1), (40, j12_0), (41, .int .i64 (j12_1.length : Int)), (42, .int .i64 c14_2), (11, .int .i64 c14_2), (56, gd (!c14_1) (.pointer (some ⟨b13, 0, none⟩))), (57, gd (!c14_1) (.pointer (some ⟨b13, 0, none⟩))), (58, gd (!c14_1) (.pointer (some ⟨b13, 1, none⟩))), (59, gd (!c14_1) (v19)), (60, gd (!c14_1) (.int .i64 (x18.length : Int))), (61, gd (!c14_1) (.bool ((x18.length : Int) == 0)))]) (fun _ => rfl) (fun _ => rfl))
                    obtain ⟨hc34, hs⟩ := check_elim hs
                    refine WP.draw (γ := Nat × Value) Tryz.mixedLd [some 80, some 81, some 82, some 83, some 84, none] rfl [(4, .pointer (some ⟨b1, 0, none⟩)), (5, .pointer (some ⟨b3, 0, none⟩)), (6, .int .i64 (IntKind.i64.wrap (c14_2 + 1))), (7, .pointer (some ⟨b4, 0, none⟩)), (8, j12_0), (9, .pointer (some ⟨b13, 0, none⟩)), (10, .bool c14_1), (40, j12_0), (41, .int .i64 (j12_1.length : Int)), (42, .int .i64 c14_2), (11, .int .i64 c14_2), (56, gd (!c14_1) (.pointer (some ⟨b13, 0, none⟩))), (57, gd (!c14_1) (.pointer (some ⟨b13, 0, none⟩))), (58, gd (!c14_1) (.pointer (some ⟨b13, 1, none⟩))), (59, gd (!c14_1) (v19)), (60, gd (!c14_1) (.int .i64 (x18.length : Int))), (61, gd (!c14_1) (.bool ((x18.length : Int) == 0)))] ⟨rfl, rfl, rfl, rfl, rfl, rfl, rfl, rfl, rfl, rfl, rfl, rfl, rfl, rfl, rfl, rfl, rfl, trivial⟩ (fun g32 => [c30_1, .pointer (some ⟨b13, 0, none⟩), .int .i64 x33.2, .slice (some ⟨g32.1, 0, none⟩) 1 1, g32.2, undef]) [⟨[], 0, 2, false⟩, ⟨[], 0, 0, false⟩, ⟨[1], 0, 0, true⟩, ⟨[2], 1, 0, true⟩, ⟨[0, 3], 2, 0, true⟩, ⟨[4, 4, 4], 3, 0, true⟩] [2, 3, 4, 5] (fun g32 => [[rdAt b13 b6 (⟨c30_0.w, c30_0.terms, c30_0.st⟩ : Rd), gl, F, pt b1 (.cells #[.pointer (some ⟨b6, 0, none⟩)] 23 (0, 0)), slc 3 1 c30_1 c30_2.length (fl ic c30_2), pt b3 (.cells #[c30_1] 24 (0, 0)), pt b4 (.cells #[.int .i64 x5.2] 28 (0, 0)), emp, slc 9 1 j12_0 j12_1.length (fl sc j12_1), emp, emp], [rdAt b13 b6 x33.1, gl, F, pt b1 (.cells #[.pointer (some ⟨b6, 0, none⟩)] 23 (0, 0)), slc 3 1 c30_1 c30_2.length (fl ic c30_2), pt b3 (.cells #[c30_1] 24 (0, 0)), pt b4 (.cells #[.int .i64 x5.2] 28 (0, 0)), emp, slc 9 1 j12_0 j12_1.length (fl sc j12_1), emp, emp], [rdAt b13 b6 x33.1, gl, F, pt b1 (.cells #[.pointer (some ⟨b6, 0, none⟩)] 23 (0, 0)), slc 3 1 c30_1 c30_2.length (fl ic c30_2), pt b3 (.cells #[c30_1] 24 (0, 0)), pt b4 (.cells #[.int .i64 x5.2] 28 (0, 0)), emp, slc 9 1 j12_0 j12_1.length (fl sc j12_1), emp, emp, pt g32.1 (.cells #[.int .i64 x33.2] 3 (0, 0))], [rdAt b13 b6 x33.1, gl, F, pt b1 (.cells #[.pointer (some ⟨b6, 0, none⟩)] 23 (0, 0)), slc 3 1 g32.2 (c30_2 ++ [x33.2]).length (fl ic (c30_2 ++ [x33.2])), pt b3 (.cells #[c30_1] 24 (0, 0)), pt b4 (.cells #[.int .i64 x5.2] 28 (0, 0)), emp, slc 9 1 j12_0 j12_1.length (fl sc j12_1), emp, emp, pt g32.1 (.cells #[.int .i64 x33.2] 3 (0, 0))], [rdAt b13 b6 x33.1, gl, F, pt b1 (.cells #[.pointer (some ⟨b6, 0, none⟩)] 23 (0, 0)), slc 3 1 g32.2 (c30_2 ++ [x33.2]).length (fl ic (c30_2 ++ [x33.2])), pt b3 (.cells #[g32.2] 24 (0, 0)), pt b4 (.cells #[.int .i64 x5.2] 28 (0, 0)), emp, slc 9 1 j12_0 j12_1.length (fl sc j12_1), emp, emp, pt g32.1 (.cells #[.int .i64 x33.2] 3 (0, 0))]]) rfl rfl rfl ⟨⟨(fun g32 => SO.at (SO.val (PO.load 5 rfl Tryz.isAgg24 rfl rfl) rfl) rfl rfl), (fun g32 => SO.at (SO.val (PO.load 5 rfl Tryz.isAgg24 rfl rfl) rfl) rfl rfl), (fun g32 => SO.at (SO.val (PO.load 5 rfl Tryz.isAgg24 rfl rfl) rfl) rfl rfl)⟩, (fun g32 => SO.at (SO.val (PO.move rfl) rfl) rfl rfl), (fun g32 => SO.eff (EO.callX [0, 1] Tryz.call50 rfl rfl (t_Rd_part hx33) (fun _ => ⟨rfl, rfl, trivial⟩)) rfl fun _ _ ⟨_, e1, e2⟩ => ⟨g32, fun _ => by rw [e1]; rfl, e2.trans rfl, ⟨rfl, rfl, trivial⟩⟩), (fun g32 => SO.eff (EO.buildSlice1 rfl Tryz.runUnderlying24 Tryz.sizeOf3 Tryz.zeroValue3 rfl rfl rfl rfl) rfl fun _ _ ⟨b_, e1, e2⟩ => ⟨(b_, g32.2), fun _ => by rw [e1]; rfl, e2.trans rfl, ⟨rfl, rfl, rfl, trivial⟩⟩), (fun g32 => SO.eff (EO.appendL (c := ic) (a := x33.2) 4 11 (fun _ => rfl) Tryz.typeInfo3 rfl rfl rfl rfl Tryz.runUnderlying24 Tryz.underlying24 rfl rfl rfl rfl rfl rfl rfl rfl hc34) rfl fun v_ _ e2 => ⟨(g32.1, v_), fun _ => rfl, e2.trans rfl, ⟨rfl, rfl, rfl, rfl, trivial⟩⟩), (fun g32 => SO.eff (EO.storeS 5 4 _ rfl rfl rfl Tryz.sizeOf24 rfl rfl rfl) rfl fun _ _ e2 => ⟨g32, fun h_ => absurd (show false = true from h_) Bool.false_ne_true, e2.trans rfl, (AgreeM_refl _ _ rfl)⟩), trivial⟩ (fun g32 => [rdAt b13 b6 x33.1, gl, F, pt b1 (.cells #[.pointer (some ⟨b6, 0, none⟩)] 23 (0, 0)), slc 3 1 g32.2 (c30_2 ++ [x33.2]).length (fl ic (c30_2 ++ [x33.2])), pt b3 (.cells #[g32.2] 24 (0, 0)), pt b4 (.cells #[.int .i64 x5.2] 28 (0, 0)), emp, slc 9 1 j12_0 j12_1.length (fl sc j12_1), emp, emp, pt g32.1 (.cells #[.int .i64 x33.2] 3 (0, 0))]) (fun _ => rfl) (fun g32 => [(80, c30_1), (81, .pointer (some ⟨b13, 0, none⟩)), (82, .int .i64 x33.2), (83, .slice (some ⟨g32.1, 0, none⟩) 1 1), (84, g32.2), (4, .pointer (some ⟨b1, 0, none⟩)), (5, .pointer (some ⟨b3, 0, none⟩)), (6, .int .i64 (IntKind.i64.wrap (c14_2 + 1))), (7, .pointer (some ⟨b4, 0, none⟩)), (8, j12_0), (9, .pointer (some ⟨b13, 0, none⟩)), (10, .bool c14_1), (40, j12_0), (41, .int .i64 (j12_1.length : Int)), (42, .int .i64 c14_2), (11, .int .i64 c14_2), (56, gd (!c14_1) (.pointer (some ⟨b13, 0, none⟩))), (57, gd (!c14_1) (.pointer (some ⟨b13, 0, none⟩))), (58, gd (!c14_1) (.pointer (some ⟨b13, 1, none⟩))), (59, gd (!c14_1) (v19)), (60, gd (!c14_1) (.int .i64 (x18.length : Int))), (61, gd (!c14_1) (.bool ((x18.length : Int) == 0)))]) (fun _ => rfl) (fun g32 => ?_)
                    exact ⟨c30_k, _, Nat.lt_succ_self _, ⟨x33.1, g32.2, (c30_2 ++ [x33.2]), ⟨rfl, rfl, rfl, rfl, rfl, rfl, rfl, rfl, rfl, rfl, rfl, rfl, rfl, rfl, rfl, rfl, rfl, trivial⟩, rfl, hs⟩, fun _ s => s.pre⟩
                  · replace hs := cond_f h31 hs
                    refine WP.exit (inX.hit ?_)
                    refine WP.seq ?_
                    refine WP.region ?_
                    refine WO.val (PO.assign rfl) rfl ?_
                    refine WO.nil ?_
                    refine WP.exit (inX.hit ?_)
                    exact ⟨_, ⟨true, (⟨c30_0.w, c30_0.terms, c30_0.st⟩ : Rd), c30_1, c30_2, (IntKind.i64.wrap (c14_2 + 1)), ⟨rfl, rfl, rfl, rfl, rfl, rfl, rfl, rfl, rfl, rfl, trivial⟩, rfl, hs⟩, fun _ s => Sat.cutTo 10 rfl ((fun _ s => rdAt_close (u := (⟨c30_0.w, c30_0.terms, c30_0.st⟩ : Rd)) s) _ s)⟩
              · replace hs := cond_f h28 hs
                refine WP.skip ?_
                refine WP.seq ?_
                refine WP.seq ?_
                refine WP.heap [rdAt b13 b6 (⟨x18, c14_3.terms, c14_3.st⟩ : Rd), gl, F, pt b1 (.cells #[.pointer (some ⟨b6, 0, none⟩)] 23 (0, 0)), slc 3 1 c14_4 c14_5.length (fl ic c14_5), pt b3 (.cells #[c14_4] 24 (0, 0)), pt b4 (.cells #[.int .i64 x5.2] 28 (0, 0)), emp, slc 9 1 j12_0 j12_1.length (fl sc j12_1), emp, emp] (fun _ s => rdAt_close (u := (⟨x18, c14_3.terms, c14_3.st⟩ : Rd)) s) ?_
                refine WP.region ?_
                refine WO.val (PO.move rfl) rfl ?_
                rcases exc_elim hs with ⟨q_, hx35, rfl⟩ | ⟨x35, hx35, hs⟩
                · refine WO.step (SO.of rfl (EO.callE [0, 1] Tryz.call51 rfl rfl (t_Rd_number hx35) ⟨⟨rfl, rfl, rfl⟩, q_, _, _, _, _, rfl, rfl, fun _ s_ => Sat.out (B := [gl, F, _, _]) [0, 3, 4, 6, 7] rfl s_⟩)) rfl ?_
                  rintro _ _ h_
                  exact h_.elim
                refine WO.step (SO.of rfl (EO.callX [0, 1] Tryz.call51 rfl rfl (t_Rd_number hx35) (fun _ => ⟨rfl, rfl, trivial⟩))) rfl ?_
                rintro _ _ ⟨_, rfl, rfl⟩
                refine WO.toL [rdAt b13 b6 x35.1, gl, F, pt b1 (.cells #[.pointer (some ⟨b6, 0, none⟩)] 23 (0, 0)), slc 3 1 c14_4 c14_5.length (fl ic c14_5), pt b3 (.cells #[c14_4] 24 (0, 0)), pt b4 (.cells #[.int .i64 x5.2] 28 (0, 0)), emp, slc 9 1 j12_0 j12_1.length (fl sc j12_1), emp, emp] rfl ?_
                refine WO.val (PO.move rfl) rfl ?_
                refine WO.val (PO.add rfl rfl) rfl ?_
                refine WO.val (PO.neq rfl rfl) rfl ?_
                refine WO.nil ?_
                refine WP.cond rfl (fun h36 => ?_) (fun h36 => ?_)
                · replace hs := cond_t h36 hs
                  refine WP.region ?_
                  refine WO.val (PO.build (v := .agg #[.int .i64 3]) rfl (fun w => by simp [Instr.build, Instr.fill, Value.cells, addr_add', Tryz.zeroValue105, Tryz.runUnderlying105, Tryz.sizeOf28])) rfl ?_
                  refine WO.val (PO.makeIface rfl Tryz.runUnderlying105 rfl) rfl ?_
                  obtain rfl := Option.some.inj hs
                  refine WO.step (SO.of rfl (EO.panic rfl ⟨⟨rfl, rfl, rfl⟩, 3, _, _, _, _, rfl, rfl, fun _ s_ => Sat.out (B := [gl, F, _, _]) [1, 2, 3, 5, 6] rfl s_⟩)) rfl ?_
                  rintro _ _ h_
                  exact h_.elim
                · replace hs := cond_f h36 hs
                  refine WP.skip ?_
                  refine WP.seq ?_
                  refine WP.region ?_
                  refine WO.val (PO.move rfl) rfl ?_
                  rcases exc_elim hs with ⟨q_, hx37, rfl⟩ | ⟨x37, hx37, hs⟩
                  · refine WO.step (SO.of rfl (EO.callE [0, 1] Tryz.call52 rfl rfl (t_Rd_node hx37) ⟨⟨rfl, rfl, rfl⟩, q_, _, _, _, _, rfl, rfl, fun _ s_ => Sat.out (B := [gl, F, _, _]) [0, 3, 4, 6, 7] rfl s_⟩)) rfl ?_
                    rintro _ _ h_
                    exact h_.elim
                  refine WO.step (SO.of rfl (EO.callX [0, 1] Tryz.call52 rfl rfl (t_Rd_node hx37) (fun _ => ⟨rfl, rfl, trivial⟩))) rfl ?_
                  rintro _ _ ⟨_, rfl, rfl⟩
                  refine WO.toL [rdAt b13 b6 x37.1, gl, F, pt b1 (.cells #[.pointer (some ⟨b6, 0, none⟩)] 23 (0, 0)), slc 3 1 c14_4 c14_5.length (fl ic c14_5), pt b3 (.cells #[c14_4] 24 (0, 0)), pt b4 (.cells #[.int .i64 x5.2] 28 (0, 0)), emp, slc 9 1 j12_0 j12_1.length (fl sc j12_1), emp, emp] rfl ?_
                  refine WO.val (PO.assign rfl) rfl ?_
                  refine WO.nil ?_
                  refine WP.openRd (fun v0 v1 => ?_)
                  refine WP.region ?_
                  refine WO.val (PO.move rfl) rfl ?_
                  refine WO.val (PO.move rfl) rfl ?_
                  refine WO.val (PO.nilCheck rfl) rfl ?_
                  refine WO.val (PO.fieldAddr rfl Tryz.runUnderlying108 rfl Tryz.sizeOf24 rfl) rfl ?_
                  refine WO.val (PO.load 0 rfl Tryz.isAgg24 rfl rfl) rfl ?_
                  refine WO.val (PO.move rfl) rfl ?_
                  refine WO.step (SO.of rfl (EO.buildSlice1 rfl Tryz.runUnderlying24 Tryz.sizeOf3 Tryz.zeroValue3 rfl rfl rfl rfl)) rfl ?_
                  rintro _ _ ⟨b38, rfl, rfl⟩
                  refine WO.toL [pt b13 (.cells #[.pointer (some ⟨b6, 0, none⟩), v0, v1] 108 (0, 0)), slw 9 1 v0 x37.1.w.length (fl sc x37.1.w), slc 3 1 v1 x37.1.terms.length (fl ic x37.1.terms), stAt b6 x37.1.st, gl, F, pt b1 (.cells #[.pointer (some ⟨b6, 0, none⟩)] 23 (0, 0)), slc 3 1 c14_4 c14_5.length (fl ic c14_5), pt b3 (.cells #[c14_4] 24 (0, 0)), pt b4 (.cells #[.int .i64 x5.2] 28 (0, 0)), emp, slc 9 1 j12_0 j12_1.length (fl sc j12_1), emp, emp, pt b38 (.cells #[.int .i64 x37.2] 3 (0, 0))] rfl ?_
                  obtain ⟨hc39, hs⟩ := check_elim hs
                  refine WO.step (SO.of rfl (EO.appendL (c := ic) (a := x37.2) 2 14 (fun _ => rfl) Tryz.typeInfo3 rfl rfl rfl rfl Tryz.runUnderlying24 Tryz.underlying24 rfl rfl rfl rfl rfl rfl rfl rfl hc39)) rfl ?_
                  rintro v40 _ rfl
                  refine WO.toL [pt b13 (.cells #[.pointer (some ⟨b6, 0, none⟩), v0, v1] 108 (0, 0)), slw 9 1 v0 x37.1.w.length (fl sc x37.1.w), slc 3 1 v40 (x37.1.terms ++ [x37.2]).length (fl ic (x37.1.terms ++ [x37.2])), stAt b6 x37.1.st, gl, F, pt b1 (.cells #[.pointer (some ⟨b6, 0, none⟩)] 23 (0, 0)), slc 3 1 c14_4 c14_5.length (fl ic c14_5), pt b3 (.cells #[c14_4] 24 (0, 0)), pt b4 (.cells #[.int .i64 x5.2] 28 (0, 0)), emp, slc 9 1 j12_0 j12_1.length (fl sc j12_1), emp, emp, pt b38 (.cells #[.int .i64 x37.2] 3 (0, 0))] rfl ?_
                  refine WO.val (PO.nilCheck rfl) rfl ?_
                  refine WO.val (PO.fieldAddr rfl Tryz.runUnderlying108 rfl Tryz.sizeOf24 rfl) rfl ?_
                  refine WO.step (SO.of rfl (EO.storeS 0 2 _ rfl rfl rfl Tryz.sizeOf24 rfl rfl rfl)) rfl ?_
                  rintro _ _ rfl
                  refine WO.toL [pt b13 (.cells #[.pointer (some ⟨b6, 0, none⟩), v0, v40] 108 (0, 0)), slw 9 1 v0 x37.1.w.length (fl sc x37.1.w), slc 3 1 v40 (x37.1.terms ++ [x37.2]).length (fl ic (x37.1.terms ++ [x37.2])), stAt b6 x37.1.st, gl, F, pt b1 (.cells #[.pointer (some ⟨b6, 0, none⟩)] 23 (0, 0)), slc 3 1 c14_4 c14_5.length (fl ic c14_5), pt b3 (.cells #[c14_4] 24 (0, 0)), pt b4 (.cells #[.int .i64 x5.2] 28 (0, 0)), emp, slc 9 1 j12_0 j12_1.length (fl sc j12_1), emp, emp, pt b38 (.cells #[.int .i64 x37.2] 3 (0, 0))] rfl ?_
                  refine WO.nil ?_
                  exact ⟨_, ⟨c14_1, (⟨x37.1.w, (x37.1.terms ++ [x37.2]), x37.1.st⟩ : Rd), c14_4, c14_5, (IntKind.i64.wrap (c14_2 + 1)), ⟨rfl, rfl, rfl, rfl, rfl, rfl, rfl, rfl, rfl, rfl, trivial⟩, rfl, hs⟩, fun _ s => Sat.cutTo 10 rfl ((fun _ s => rdAt_close (u := (⟨x37.1.w, (x37.1.terms ++ [x37.2]), x37.1.st⟩ : Rd)) s) _ s)⟩
          · rintro f_ L_ ⟨j16_0, j16_1, j16_2, j16_3, j16_4, hf_, rfl, hs⟩
            refine WP.keep [(4, .pointer (some ⟨b1, 0, none⟩)), (5, .pointer (some ⟨b3, 0, none⟩)), (6, .int .i64 j16_4), (7, .pointer (some ⟨b4, 0, none⟩)), (8, j12_0), (9, .pointer (some ⟨b13, 0, none⟩)), (10, .bool j16_0), (40, j12_0), (41, .int .i64 (j12_1.length : Int)), (42, .int .i64 c14_2)] hf_ ?_
            unfold s_Load_j6 at hs
            refine WP.region ?_
            refine WO.val (PO.add rfl rfl) rfl ?_
            refine WO.val (PO.move rfl) rfl ?_
            refine WO.nil ?_
            exact ⟨c14_k, _, Nat.lt_succ_self _, ⟨j16_4, j16_0, (IntKind.i64.wrap (c14_2 + 1)), j16_1, j16_2, j16_3, ⟨rfl, rfl, rfl, rfl, rfl, rfl, rfl, rfl, rfl, rfl, trivial⟩, rfl, hs⟩, fun _ s => s.pre⟩
        · replace hs := cond_f h15 hs
          refine WP.exit (inX.hit ?_)
          refine WP.seq ?_
          refine WP.region ?_
          refine WO.val (PO.move rfl) rfl ?_
          refine WO.val (PO.lenL 8 rfl Tryz.runUnderlying41 rfl) rfl ?_
          refine WO.val (PO.add rfl rfl) rfl ?_
          refine WO.val (PO.assign rfl) rfl ?_
          refine WO.nil ?_
          refine WP.seq ?_
          refine WP.seq ?_
          refine WP.region ?_
          refine WO.val (PO.move rfl) rfl ?_
          refine WO.val (PO.not rfl) rfl ?_
          refine WO.nil ?_
          refine WP.cond rfl (fun h41 => ?_) (fun h41 => ?_)
          · replace hs := cond_t h41 hs
            refine WP.region ?_
            refine WO.val (PO.build (v := .agg #[.int .i64 3]) rfl (fun w => by simp [Instr.build, Instr.fill, Value.cells, addr_add', Tryz.zeroValue105, Tryz.runUnderlying105, Tryz.sizeOf28])) rfl ?_
            refine WO.val (PO.makeIface rfl Tryz.runUnderlying105 rfl) rfl ?_
            obtain rfl := Option.some.inj hs
            refine WO.step (SO.of rfl (EO.panic rfl ⟨⟨rfl, rfl, rfl⟩, 3, _, _, _, _, rfl, rfl, fun _ s_ => Sat.out (B := [gl, F, _, _]) [1, 2, 3, 5, 6] rfl s_⟩)) rfl ?_
            rintro _ _ h_
            exact h_.elim
          · replace hs := cond_f h41 hs
            refine WP.skip ?_
            refine WP.seq ?_
            refine WP.draw (γ := Unit) Tryz.mixedLd [some 112, some 113, none, none, some 6, none] rfl [(4, .pointer (some ⟨b1, 0, none⟩)), (5, .pointer (some ⟨b3, 0, none⟩)), (7, .pointer (some ⟨b4, 0, none⟩))] ⟨rfl, rfl, rfl, trivial⟩ (fun g42 => [.pointer (some ⟨b6, 0, none⟩), c14_4, undef, undef, .int .i64 0, undef]) [⟨[], 0, 0, false⟩, ⟨[], 0, 1, false⟩, ⟨[0, 0], 0, 0, true⟩, ⟨[1, 1], 1, 0, true⟩, ⟨[], 2, 0, false⟩, ⟨[], 2, 0, true⟩] [2, 3, 5] (fun g42 => [[rdAt b13 b6 c14_3, gl, F, pt b1 (.cells #[.pointer (some ⟨b6, 0, none⟩)] 23 (0, 0)), slc 3 1 c14_4 c14_5.length (fl ic c14_5), pt b3 (.cells #[c14_4] 24 (0, 0)), pt b4 (.cells #[.int .i64 x5.2] 28 (0, 0)), emp, slc 9 1 j12_0 j12_1.length (fl sc j12_1), emp], [rdAt b13 b6 c14_3, gl, F, pt b1 (.cells #[.pointer (some ⟨b6, 0, none⟩)] 23 (0, 0)), slc 3 1 c14_4 c14_5.length (fl ic c14_5), pt b3 (.cells #[c14_4] 24 (0, 0)), pt b4 (.cells #[.int .i64 x5.2] 28 (0, 0)), emp, slc 9 1 j12_0 j12_1.length (fl sc j12_1), emp], [rdAt b13 b6 c14_3, gl, F, pt b1 (.cells #[.pointer (some ⟨b6, 0, none⟩)] 23 (0, 0)), slc 3 1 c14_4 c14_5.length (fl ic c14_5), pt b3 (.cells #[c14_4] 24 (0, 0)), pt b4 (.cells #[.int .i64 x5.2] 28 (0, 0)), emp, slc 9 1 j12_0 j12_1.length (fl sc j12_1), emp], [rdAt b13 b6 c14_3, gl, F, pt b1 (.cells #[.pointer (some ⟨b6, 0, none⟩)] 23 (0, 0)), slc 3 1 c14_4 c14_5.length (fl ic c14_5), pt b3 (.cells #[c14_4] 24 (0, 0)), pt b4 (.cells #[.int .i64 0] 28 (0, 0)), emp, slc 9 1 j12_0 j12_1.length (fl sc j12_1), emp]]) rfl rfl rfl ⟨(fun g42 => SO.at (SO.val (PO.load 3 rfl Tryz.isAgg23 rfl rfl) rfl) rfl rfl), ⟨(fun g42 => SO.at (SO.val (PO.load 5 rfl Tryz.isAgg24 rfl rfl) rfl) rfl rfl), (fun g42 => SO.at (SO.val (PO.load 5 rfl Tryz.isAgg24 rfl rfl) rfl) rfl rfl)⟩, (fun g42 => SO.eff (EO.store 3 _ rfl rfl Tryz.sizeOf23 rfl rfl rfl rfl) rfl fun _ _ e2 => ⟨g42, fun h_ => absurd (show false = true from h_) Bool.false_ne_true, e2.trans rfl, (AgreeM_refl _ _ rfl)⟩), (fun g42 => SO.eff (EO.storeS 5 4 _ rfl rfl rfl Tryz.sizeOf24 rfl rfl rfl) rfl fun _ _ e2 => ⟨g42, fun h_ => absurd (show false = true from h_) Bool.false_ne_true, e2.trans rfl, (AgreeM_refl _ _ rfl)⟩), (fun g42 => SO.at (SO.val (PO.assign rfl) rfl) rfl rfl), (fun g42 => SO.eff (EO.store 6 _ rfl rfl Tryz.sizeOf28 rfl rfl rfl rfl) rfl fun _ _ e2 => ⟨g42, fun h_ => absurd (show false = true from h_) Bool.false_ne_true, e2.trans rfl, (AgreeM_refl _ _ rfl)⟩), trivial⟩ (fun g42 => [rdAt b13 b6 c14_3, gl, F, pt b1 (.cells #[.pointer (some ⟨b6, 0, none⟩)] 23 (0, 0)), slc 3 1 c14_4 c14_5.length (fl ic c14_5), pt b3 (.cells #[c14_4] 24 (0, 0)), pt b4 (.cells #[.int .i64 0] 28 (0, 0)), emp, slc 9 1 j12_0 j12_1.length (fl sc j12_1), emp]) (fun _ => rfl) (fun g42 => [(112, .pointer (some ⟨b6, 0, none⟩)), (113, c14_4), (6, .int .i64 0), (4, .pointer (some ⟨b1, 0, none⟩)), (5, .pointer (some ⟨b3, 0, none⟩)), (7, .pointer (some ⟨b4, 0, none⟩))]) (fun _ => rfl) (fun g42 => ?_)
            refine WP.ret ?_
            obtain rfl := Option.some.inj hs
            exact ⟨⟨rfl, rfl, rfl⟩, _, _, _, _, _, rfl, fun _ s_ => Sat.out (B := [gl, F, _, _, _, _]) [1, 2, 3, 5, 6, 0, 4] rfl (Sat.rdSt (w0 := ⟨w0, fun _ _ _ => False⟩) s_)⟩

end Go.Proofs.YtlnionilhagenaaGreatDoor
