/- Printed by gen.py (my own program): Lean functions with the answers of the Go functions, and the proofs that the code comes to them. -/
import Derived.Test.YtlnionilhagenaaGreatDoorDrd
namespace Go.Proofs.YtlnionilhagenaaGreatDoor
open Go.RowKit
set_option linter.all false
set_option maxRecDepth 100000
set_option maxHeartbeats 4000000
theorem Tryz.mixedRdr : Tryz.prog.follows .mixedOrders = true := by kernel_rfl

/- strconv.ParseUint -/
def s_ParseUint (k : Nat) (s : ByteArray) (base : Int) (bitSize : Int) : Option (Int × Int) :=
  (s_iParseUint k s base bitSize).bind fun x1 =>
  cond (x1.2 != 0)
    ((s_toError (ByteArray.mk #[80, 97, 114, 115, 101, 85, 105, 110, 116]) s base bitSize x1.2).bind fun x3 =>
    some (x1.1, x3))
    (some (x1.1, 0))
theorem t_ParseUint [GlobFix] {k : Nat} {s : ByteArray} {base : Int} {bitSize : Int} {r : Int × Int}
    (hs : s_ParseUint k s base bitSize = some r) :
    TriX Tryz.prog 91 [.string s, .int .i64 base, .int .i64 bitSize] [gl] (.ok r) faultV (fun (a_ : Int × Int) (c : Value) => .tuple #[.int .u64 a_.1, errO a_.2 c]) (fun a_ c => [gl]) := by
  unfold s_ParseUint at hs
  refine TriX.of Tryz.func91 rfl Tryz.ntmps91 Tryz.results91 rfl (fun w0 F => ?_)
  refine WP.seq ?_
  refine WP.region ?_
  refine WO.val (PO.assign rfl) rfl ?_
  refine WO.val (PO.assign rfl) rfl ?_
  refine WO.nil ?_
  refine WP.seq ?_
  refine WP.region ?_
  refine WO.val (PO.move rfl) rfl ?_
  refine WO.val (PO.move rfl) rfl ?_
  refine WO.val (PO.move rfl) rfl ?_
  obtain ⟨x1, hx1, hs⟩ := bind_elim hs
  refine WO.vo (VO.call0 Tryz.call107 rfl (t_iParseUint hx1)) rfl ?_
  refine WO.val (PO.move rfl) rfl ?_
  refine WO.val (PO.extract rfl rfl) rfl ?_
  refine WO.val (PO.extract rfl rfl) rfl ?_
  refine WO.val (PO.assign rfl) rfl ?_
  refine WO.val (PO.assign rfl) rfl ?_
  refine WO.nil ?_
  refine WP.seq ?_
  refine WP.seq ?_
  refine WP.region ?_
  refine WO.val (PO.move rfl) rfl ?_
  refine WO.val (PO.neqErrI rfl) rfl ?_
  refine WO.nil ?_
  refine WP.cond rfl (fun h2 => ?_) (fun h2 => ?_)
  · replace hs := cond_t h2 hs
    refine WP.seq ?_
    refine WP.region ?_
    refine WO.val (PO.move rfl) rfl ?_
    refine WO.val (PO.move rfl) rfl ?_
    refine WO.val (PO.move rfl) rfl ?_
    refine WO.val (PO.move rfl) rfl ?_
    refine WO.val (PO.move rfl) rfl ?_
    obtain ⟨x3, hx3, hs⟩ := bind_elim hs
    refine WO.step (SO.of rfl (EO.callX [0] Tryz.call108 rfl rfl (t_toError hx3) (fun _ => ⟨rfl, trivial⟩))) rfl ?_
    rintro _ _ ⟨v4, rfl, rfl⟩
    refine WO.toL [gl, F] rfl ?_
    refine WO.val (PO.assign rfl) rfl ?_
    refine WO.val (PO.assign rfl) rfl ?_
    refine WO.nil ?_
    refine WP.ret ?_
    obtain rfl := Option.some.inj hs
    exact ⟨_, v4, _, _, rfl, Res.two (RV.tmp rfl) (RV.tmp rfl), rfl, fun _ s => Sat.out [0, 1] rfl s⟩
  · replace hs := cond_f h2 hs
    refine WP.skip ?_
    refine WP.seq ?_
    refine WP.region ?_
    refine WO.val (PO.move rfl) rfl ?_
    refine WO.val (PO.assign rfl) rfl ?_
    refine WO.val (PO.assign rfl) rfl ?_
    refine WO.nil ?_
    refine WP.ret ?_
    obtain rfl := Option.some.inj hs
    exact ⟨_, undef, _, _, rfl, Res.two (RV.tmp rfl) (RV.tmp rfl), rfl, fun _ s => Sat.out [0, 1] rfl s⟩
attribute [irreducible] s_ParseUint

/- cadence/bits.Number -/
def s_Number_l1 (k : Nat) (x1 : ByteArray × Bool) : Nat → Nat → Option (Int × Int)
  | 0, _ => none
  | c4_k + 1, c4_0 =>
    cond (decide (c4_0 < x1.1.size))
      (cond (((((Utf8.decode x1.1 c4_0).1 : Int) == 95) || (((Utf8.decode x1.1 c4_0).1 : Int) == 43)) || (((Utf8.decode x1.1 c4_0).1 : Int) == 45))
        (some (0, 10))
        (s_Number_l1 k x1 c4_k (c4_0 + (Utf8.decode x1.1 c4_0).2)))
      ((s_ParseUint k x1.1 (bif x1.2 then 16 else 10) 64).bind fun x11 =>
      cond (x11.2 != 0)
        (some (0, 10))
        (some (x11.1, 0)))
def s_Number (k : Nat) (s : ByteArray) : Option (Int × Int) :=
  (s_strings_CutPrefix s (ByteArray.mk #[48, 120])).bind fun x1 =>
  s_Number_l1 k x1 k 0
theorem t_Number [GlobFix] {k : Nat} {s : ByteArray} {r : Int × Int}
    (hs : s_Number k s = some r) :
    TriX Tryz.prog 71 [.string s] [gl] (.ok r) faultV (fun (a_ : Int × Int) (_ : Unit) => .tuple #[.int .u64 a_.1, .int .i64 a_.2]) (fun a_ _ => [gl]) := by
  unfold s_Number at hs
  refine TriX.of Tryz.func71 rfl Tryz.ntmps71 Tryz.results71 rfl (fun w0 F => ?_)
  refine WP.seq ?_
  refine WP.region ?_
  refine WO.val (PO.assign rfl) rfl ?_
  refine WO.val (PO.assign rfl) rfl ?_
  refine WO.nil ?_
  refine WP.seq ?_
  refine WP.region ?_
  refine WO.val (PO.assign rfl) rfl ?_
  refine WO.nil ?_
  refine WP.seq ?_
  refine WP.region ?_
  refine WO.val (PO.move rfl) rfl ?_
  obtain ⟨x1, hx1, hs⟩ := bind_elim hs
  refine WO.vo (VO.call0 Tryz.call90 rfl (t_strings_CutPrefix hx1)) rfl ?_
  refine WO.val (PO.move rfl) rfl ?_
  refine WO.val (PO.extract rfl rfl) rfl ?_
  refine WO.val (PO.extract rfl rfl) rfl ?_
  refine WO.val (PO.assign rfl) rfl ?_
  refine WO.val (PO.assign rfl) rfl ?_
  refine WO.nil ?_
  refine WP.seq ?_
  refine WP.seq ?_
  refine WP.region ?_
  refine WO.val (PO.move rfl) rfl ?_
  refine WO.nil ?_
  refine WP.merge [(2, .int .u64 0), (3, .int .i64 0), (4, .int .i64 (bif x1.2 then 16 else 10)), (5, .string x1.1)] [gl, F] (WP.cond rfl (fun h2 => ?_) (fun h2 => ?_)) ?_
  · refine WP.region ?_
    refine WO.val (PO.assign rfl) rfl ?_
    refine WO.nil ?_
    exact ⟨⟨rfl, rfl, (by rw [h2] <;> rfl), rfl, trivial⟩, rfl⟩
  · refine WP.skip ?_
    exact ⟨⟨rfl, rfl, (by rw [h2] <;> rfl), rfl, trivial⟩, rfl⟩
  intro f_ hf_
  refine WP.keep [(2, .int .u64 0), (3, .int .i64 0), (4, .int .i64 (bif x1.2 then 16 else 10)), (5, .string x1.1)] hf_ ?_
  refine WP.seq ?_
  refine WP.seq ?_
  refine WP.region ?_
  refine WO.val (PO.move rfl) rfl ?_
  refine WO.step (SO.of rfl (EO.rangeS rfl Tryz.runUnderlying9)) rfl ?_
  rintro _ _ ⟨b3, rfl, rfl⟩
  refine WO.toL [gl, F, pt b3 (.stringIter x1.1 0)] rfl ?_
  refine WO.nil ?_
  refine WP.block ?_
  refine WP.loopG (fun c4_k f_ L_ => ∃ (c4_0 : Nat), Holds f_ [(2, .int .u64 0), (3, .int .i64 0), (4, .int .i64 (bif x1.2 then 16 else 10)), (5, .string x1.1), (18, .pointer (some ⟨b3, 0, none⟩))] ∧ L_ = [gl, F, pt b3 (.stringIter x1.1 c4_0)] ∧ s_Number_l1 k x1 c4_k c4_0 = some r) k ⟨0, ⟨rfl, rfl, rfl, rfl, rfl, trivial⟩, rfl, hs⟩ ?_
  rintro c4_k f_ L_ ⟨c4_0, hf_, rfl, hs⟩
  refine WP.keep [(2, .int .u64 0), (3, .int .i64 0), (4, .int .i64 (bif x1.2 then 16 else 10)), (5, .string x1.1), (18, .pointer (some ⟨b3, 0, none⟩))] hf_ ?_
  cases c4_k with
  | zero => exact nomatch (show none = some r from hs)
  | succ c4_k =>
    rw [s_Number_l1.eq_2] at hs
    refine WP.seq ?_
    refine WP.region ?_
    refine WO.splitB (decide (c4_0 < x1.1.size)) (fun h5 => ?_) (fun h5 => ?_)
    · replace hs := cond_t h5 hs
      refine WO.step (SO.of rfl (EO.nextT 2 _ rfl rfl h5 rfl)) rfl ?_
      rintro _ _ ⟨rfl, rfl⟩
      refine WO.toL [gl, F, pt b3 (.stringIter x1.1 (c4_0 + (Utf8.decode x1.1 c4_0).2))] rfl ?_
      refine WO.val (PO.extract rfl rfl) rfl ?_
      refine WO.nil ?_
      refine WP.seq ?_
      refine WP.condT rfl ?_
      refine WP.skip ?_
      refine WP.block ?_
      refine WP.seq ?_
      refine WP.region ?_
      refine WO.val (PO.extract rfl rfl) rfl ?_
      refine WO.val (PO.assign rfl) rfl ?_
      refine WO.nil ?_
      refine WP.seq ?_
      refine WP.regionG (D := [some 22, some 23, some 24, some 25, some 26, some 27, some 28, some 29, some 30, some 31]) rfl ?_
      refine WO.val (PO.move rfl) rfl ?_
      refine WO.val (PO.eql rfl rfl) rfl ?_
      refine WO.val (PO.move rfl) rfl ?_
      refine WO.guardF rfl rfl (fun hg6 => (PO.move rfl).vo) rfl ?_
      refine WO.guardF rfl rfl (fun hg7 => (PO.eql (evg hg7 rfl) rfl).vo) rfl ?_
      refine WO.val (PO.pickO rfl rfl rfl) rfl ?_
      refine WO.val (PO.move rfl) rfl ?_
      refine WO.guardF rfl rfl (fun hg8 => (PO.move rfl).vo) rfl ?_
      refine WO.guardF rfl rfl (fun hg9 => (PO.eql (evg hg9 rfl) rfl).vo) rfl ?_
      refine WO.val (PO.pickO rfl rfl rfl) rfl ?_
      refine WO.nil ?_
      refine WP.cond rfl (fun h10 => ?_) (fun h10 => ?_)
      · replace hs := cond_t h10 hs
        refine WP.seq ?_
        refine WP.region ?_
        refine WO.val (PO.assign rfl) rfl ?_
        refine WO.val (PO.assign rfl) rfl ?_
        refine WO.nil ?_
        refine WP.ret ?_
        obtain rfl := Option.some.inj hs
        exact ⟨_, (), _, _, rfl, Res.two (RV.tmp rfl) (RV.tmp rfl), rfl, fun _ s => Sat.out [0, 1] rfl s⟩
      · replace hs := cond_f h10 hs
        refine WP.skip ?_
        exact ⟨c4_k, _, Nat.lt_succ_self _, ⟨(c4_0 + (Utf8.decode x1.1 c4_0).2), ⟨rfl, rfl, rfl, rfl, rfl, trivial⟩, rfl, hs⟩, fun _ s => s.pre⟩
    · replace hs := cond_f h5 hs
      refine WO.val (PO.nextF 2 rfl rfl h5) rfl ?_
      refine WO.val (PO.extract rfl rfl) rfl ?_
      refine WO.nil ?_
      refine WP.seq ?_
      refine WP.condF rfl ?_
      refine WP.exit (inX.hit ?_)
      refine WP.seq ?_
      refine WP.region ?_
      refine WO.val (PO.move rfl) rfl ?_
      refine WO.val (PO.move rfl) rfl ?_
      obtain ⟨x11, hx11, hs⟩ := bind_elim hs
      refine WO.step (SO.of rfl (EO.callX [0] Tryz.call91 rfl rfl (t_ParseUint hx11) (fun _ => ⟨rfl, trivial⟩))) rfl ?_
      rintro _ _ ⟨v12, rfl, rfl⟩
      refine WO.toL [gl, F, pt b3 (.stringIter x1.1 c4_0)] rfl ?_
      refine WO.val (PO.move rfl) rfl ?_
      refine WO.val (PO.extract rfl rfl) rfl ?_
      refine WO.val (PO.extract rfl rfl) rfl ?_
      refine WO.val (PO.assign rfl) rfl ?_
      refine WO.val (PO.assign rfl) rfl ?_
      refine WO.nil ?_
      refine WP.seq ?_
      refine WP.seq ?_
      refine WP.region ?_
      refine WO.val (PO.move rfl) rfl ?_
      refine WO.val (PO.neqErrO rfl) rfl ?_
      refine WO.nil ?_
      refine WP.cond rfl (fun h13 => ?_) (fun h13 => ?_)
      · replace hs := cond_t h13 hs
        refine WP.seq ?_
        refine WP.region ?_
        refine WO.val (PO.assign rfl) rfl ?_
        refine WO.val (PO.assign rfl) rfl ?_
        refine WO.nil ?_
        refine WP.ret ?_
        obtain rfl := Option.some.inj hs
        exact ⟨_, (), _, _, rfl, Res.two (RV.tmp rfl) (RV.tmp rfl), rfl, fun _ s => Sat.out [0, 1] rfl s⟩
      · replace hs := cond_f h13 hs
        refine WP.skip ?_
        refine WP.seq ?_
        refine WP.region ?_
        refine WO.val (PO.move rfl) rfl ?_
        refine WO.val (PO.assign rfl) rfl ?_
        refine WO.val (PO.assign rfl) rfl ?_
        refine WO.nil ?_
        refine WP.ret ?_
        obtain rfl := Option.some.inj hs
        exact ⟨_, (), _, _, rfl, Res.two (RV.tmp rfl) (RV.tmp rfl), rfl, fun _ s => Sat.out [0, 1] rfl s⟩
attribute [irreducible] s_Number

/- cadence/term.names -/
def s_names : Option ((List ByteArray)) :=
  (s_strings_Fields (ByteArray.mk #[45, 32, 116, 114, 117, 101, 32, 102, 97, 108, 115, 101, 32, 99, 111, 110, 115, 116, 32, 118, 97, 114, 32, 110, 111, 116, 32, 97, 110, 100, 32, 111, 114, 32, 120, 111, 114, 32, 101, 113, 32, 117, 108, 116, 32, 117, 108, 101, 32, 115, 108, 116, 32, 115, 108, 101, 32, 105, 116, 101, 32, 99, 111, 109, 32, 110, 101, 103, 32, 98, 97, 110, 100, 32, 98, 111, 114, 32, 98, 120, 111, 114, 32, 97, 100, 100, 32, 115, 117, 98, 32, 109, 117, 108, 32, 100, 105, 118, 32, 114, 101, 109, 32, 115, 104, 108, 32, 115, 104, 114, 32, 115, 97, 114, 32, 114, 111, 108, 32, 114, 111, 114, 32, 99, 97, 116, 32, 115, 108, 105, 99, 101, 32, 122, 101, 120, 116, 32, 115, 101, 120, 116])).bind fun x2 =>
  some x2
theorem t_names [GlobFix] {r : (List ByteArray)}
    (hs : s_names = some r) :
    TriX Tryz.prog 40 [] [gl] (.ok r) faultV (fun (a_ : (List ByteArray)) (c : Value) => c) (fun a_ c => [gl, slc 9 1 c a_.length (fl sc a_)]) := by
  unfold s_names at hs
  refine TriX.of Tryz.func40 rfl Tryz.ntmps40 Tryz.results40 rfl (fun w0 F => ?_)
  refine WP.seq ?_
  refine WP.region ?_
  refine WO.heap [gl, F, slc 9 1 (nils 1) ([] : List ByteArray).length (fl sc ([] : List ByteArray))] (fun _ s => s.addNil 9 1 1) ?_
  refine WO.val (PO.assign (v := (nils 1)) rfl) rfl ?_
  refine WO.nil ?_
  refine WP.seq ?_
  refine WP.region ?_
  obtain ⟨x2, hx2, hs⟩ := bind_elim hs
  refine WO.step (SO.of rfl (EO.callX [0] Tryz.call68 rfl rfl (t_strings_Fields hx2) (fun _ => ⟨rfl, trivial⟩))) rfl ?_
  rintro v3 _ ⟨_, rfl, rfl⟩
  refine WO.toL [gl, F, slc 9 1 (nils 1) ([] : List ByteArray).length (fl sc ([] : List ByteArray)), slc 9 1 v3 x2.length (fl sc x2)] rfl ?_
  refine WO.val (PO.assign rfl) rfl ?_
  refine WO.nil ?_
  refine WP.ret ?_
  obtain rfl := Option.some.inj hs
  exact ⟨_, v3, _, _, rfl, Res.one (RV.tmp rfl), rfl, fun _ s => Sat.out [0, 3, 1] rfl s⟩
attribute [irreducible] s_names

/- cadence/term.operation -/
def s_operation_l0 (w : ByteArray) (x1 : (List ByteArray)) : Nat → Int → Option (Except Int (Int))
  | 0, _ => none
  | c3_k + 1, c3_0 =>
    cond (decide (c3_0 < (x1.length : Int)))
      ((getI x1 c3_0).bind fun x5 =>
      cond ((decide (0 < c3_0)) && (x5.toList == w.toList))
        (some (.ok c3_0))
        (s_operation_l0 w x1 c3_k (IntKind.i64.wrap (c3_0 + 1))))
      (some (.error 3))
def s_operation (k : Nat) (w : ByteArray) : Option (Except Int (Int)) :=
  s_names.bind fun x1 =>
  s_operation_l0 w x1 k 0
theorem t_operation [GlobFix] {k : Nat} {w : ByteArray} {r : Except Int (Int)}
    (hs : s_operation k w = some r) :
    TriX Tryz.prog 72 [.string w] [gl] r faultG (fun (a_ : Int) (_ : Unit) => .int .i64 a_) (fun a_ _ => [gl]) := by
  unfold s_operation at hs
  refine TriX.of Tryz.func72 rfl Tryz.ntmps72 Tryz.results72 rfl (fun w0 F => ?_)
  refine WP.seq ?_
  refine WP.region ?_
  refine WO.val (PO.assign rfl) rfl ?_
  refine WO.nil ?_
  refine WP.seq ?_
  refine WP.seq ?_
  refine WP.region ?_
  obtain ⟨x1, hx1, hs⟩ := bind_elim hs
  refine WO.step (SO.of rfl (EO.callX [0] Tryz.call40 rfl rfl (t_names hx1) (fun _ => ⟨rfl, trivial⟩))) rfl ?_
  rintro v2 _ ⟨_, rfl, rfl⟩
  refine WO.toL [gl, F, slc 9 1 v2 x1.length (fl sc x1)] rfl ?_
  refine WO.val (PO.lenL 2 rfl Tryz.runUnderlying41 rfl) rfl ?_
  refine WO.val (PO.move rfl) rfl ?_
  refine WO.nil ?_
  refine WP.block ?_
  refine WP.loopG (fun c3_k f_ L_ => ∃ (c3_0 : Int), Holds f_ [(0, .string w), (2, .int .i64 0), (5, v2), (6, .int .i64 (x1.length : Int)), (7, .int .i64 c3_0)] ∧ L_ = [gl, F, slc 9 1 v2 x1.length (fl sc x1)] ∧ s_operation_l0 w x1 c3_k c3_0 = some r) k ⟨0, ⟨rfl, rfl, rfl, rfl, rfl, trivial⟩, rfl, hs⟩ ?_
  rintro c3_k f_ L_ ⟨c3_0, hf_, rfl, hs⟩
  refine WP.keep [(0, .string w), (2, .int .i64 0), (5, v2), (6, .int .i64 (x1.length : Int)), (7, .int .i64 c3_0)] hf_ ?_
  cases c3_k with
  | zero => exact nomatch (show none = some r from hs)
  | succ c3_k =>
    rw [s_operation_l0.eq_2] at hs
    refine WP.seq ?_
    refine WP.region ?_
    refine WO.val (PO.lss rfl rfl) rfl ?_
    refine WO.nil ?_
    refine WP.seq ?_
    refine WP.cond rfl (fun h4 => ?_) (fun h4 => ?_)
    · replace hs := cond_t h4 hs
      refine WP.skip ?_
      refine WP.seq ?_
      refine WP.block ?_
      refine WP.seq ?_
      refine WP.region ?_
      refine WO.val (PO.move rfl) rfl ?_
      obtain ⟨x5, hx5, hs⟩ := bind_elim hs
      refine WO.val (PO.idxL 2 rfl rfl Tryz.runUnderlying41 Tryz.sizeOf9 rfl hx5) rfl ?_
      refine WO.val (PO.loadL 2 rfl Tryz.isAgg9 rfl (fl_at (c := sc) (k := 1) (j := 0) (fun _ => rfl) hx5 rfl)) rfl ?_
      refine WO.val (PO.assign rfl) rfl ?_
      refine WO.val (PO.assign rfl) rfl ?_
      refine WO.nil ?_
      refine WP.seq ?_
      refine WP.regionG (D := [some 12, some 13, some 14, some 15, some 16, some 17, some 18]) rfl ?_
      refine WO.val (PO.move rfl) rfl ?_
      refine WO.val (PO.gtr rfl rfl) rfl ?_
      refine WO.val (PO.move rfl) rfl ?_
      refine WO.guardT rfl rfl (fun hg6 => (PO.move rfl).vo) rfl ?_
      refine WO.guardT rfl rfl (fun hg7 => (PO.move rfl).vo) rfl ?_
      refine WO.guardT rfl rfl (fun hg8 => (PO.seql (evg hg8 rfl) (evg hg8 rfl)).vo) rfl ?_
      refine WO.val (PO.pickA rfl rfl rfl) rfl ?_
      refine WO.nil ?_
      refine WP.cond rfl (fun h9 => ?_) (fun h9 => ?_)
      · replace hs := cond_t h9 hs
        refine WP.seq ?_
        refine WP.region ?_
        refine WO.val (PO.move rfl) rfl ?_
        refine WO.val (PO.assign rfl) rfl ?_
        refine WO.nil ?_
        refine WP.ret ?_
        obtain rfl := Option.some.inj hs
        exact ⟨_, (), _, _, rfl, Res.one (RV.tmp rfl), rfl, fun _ s => Sat.out [0, 1] rfl s⟩
      · replace hs := cond_f h9 hs
        refine WP.skip ?_
        refine WP.region ?_
        refine WO.val (PO.add rfl rfl) rfl ?_
        refine WO.val (PO.move rfl) rfl ?_
        refine WO.nil ?_
        exact ⟨c3_k, _, Nat.lt_succ_self _, ⟨(IntKind.i64.wrap (c3_0 + 1)), ⟨rfl, rfl, rfl, rfl, rfl, trivial⟩, rfl, hs⟩, fun _ s => s.pre⟩
    · replace hs := cond_f h4 hs
      refine WP.exit (inX.hit ?_)
      refine WP.region ?_
      refine WO.val (PO.build (v := .agg #[.int .i64 3]) rfl (fun w => by simp [Instr.build, Instr.fill, Value.cells, addr_add', Tryz.zeroValue105, Tryz.runUnderlying105, Tryz.sizeOf28])) rfl ?_
      refine WO.val (PO.makeIface rfl Tryz.runUnderlying105 rfl) rfl ?_
      obtain rfl := Option.some.inj hs
      refine WO.step (SO.of rfl (EO.panic rfl ⟨3, _, rfl, rfl, fun _ s_ => Sat.out (B := [gl]) [0, 1] rfl s_⟩)) rfl ?_
      rintro _ _ h_
      exact h_.elim
attribute [irreducible] s_operation

/- (*cadence/term.reader).next -/
def s_Rd_next (U : Rd) : Option (Except Int (Rd × ByteArray)) :=
  cond ((U.w.length : Int) == 0)
    (some (.error 3))
    ((getI U.w 0).bind fun x2 =>
    if 0 ≤ (1 : Int) ∧ (1 : Int) ≤ (U.w.length : Int) then (some (.ok ((⟨(U.w.drop (1 : Int).toNat), U.terms, U.st⟩ : Rd), x2))) else none)
theorem t_Rd_next {p0 : Nat} {s0 : Nat} {U : Rd} {r : Except Int (Rd × ByteArray)}
    (hs : s_Rd_next U = some r) :
    TriX Tryz.prog 49 [.pointer (some ⟨p0, 0, none⟩)] [rdAt p0 s0 U] r faultV (fun (a_ : Rd × ByteArray) (_ : Unit) => .string a_.2) (fun a_ _ => [rdAt p0 s0 a_.1]) := by
  unfold s_Rd_next at hs
  refine TriX.of Tryz.func49 rfl Tryz.ntmps49 Tryz.results49 rfl (fun w0 F => ?_)
  refine WP.seq ?_
  refine WP.region ?_
  refine WO.val (PO.assign rfl) rfl ?_
  refine WO.nil ?_
  refine WP.seq ?_
  refine WP.seq ?_
  refine WP.openRd (fun v0 v1 => ?_)
  refine WP.region ?_
  refine WO.val (PO.move rfl) rfl ?_
  refine WO.val (PO.nilCheck rfl) rfl ?_
  refine WO.val (PO.fieldAddr rfl Tryz.runUnderlying108 rfl Tryz.sizeOf41 rfl) rfl ?_
  refine WO.val (PO.load 0 rfl Tryz.isAgg41 rfl rfl) rfl ?_
  refine WO.val (PO.lenW 1 rfl Tryz.runUnderlying41 rfl) rfl ?_
  refine WO.val (PO.eql rfl rfl) rfl ?_
  refine WO.nil ?_
  refine WP.cond rfl (fun h1 => ?_) (fun h1 => ?_)
  · replace hs := cond_t h1 hs
    refine WP.region ?_
    refine WO.val (PO.build (v := .agg #[.int .i64 3]) rfl (fun w => by simp [Instr.build, Instr.fill, Value.cells, addr_add', Tryz.zeroValue105, Tryz.runUnderlying105, Tryz.sizeOf28])) rfl ?_
    refine WO.val (PO.makeIface rfl Tryz.runUnderlying105 rfl) rfl ?_
    obtain rfl := Option.some.inj hs
    refine WO.step (SO.of rfl (EO.panic rfl ⟨3, _, rfl, rfl, fun _ s_ => Sat.emp1 (Sat.out (B := []) [4] rfl s_)⟩)) rfl ?_
    rintro _ _ h_
    exact h_.elim
  · replace hs := cond_f h1 hs
    refine WP.skip ?_
    refine WP.seq ?_
    refine WP.region ?_
    refine WO.val (PO.move rfl) rfl ?_
    refine WO.val (PO.nilCheck rfl) rfl ?_
    refine WO.val (PO.fieldAddr rfl Tryz.runUnderlying108 rfl Tryz.sizeOf41 rfl) rfl ?_
    refine WO.val (PO.load 0 rfl Tryz.isAgg41 rfl rfl) rfl ?_
    obtain ⟨x2, hx2, hs⟩ := bind_elim hs
    refine WO.val (PO.idxW 1 rfl rfl Tryz.runUnderlying41 Tryz.sizeOf9 rfl hx2) rfl ?_
    refine WO.val (PO.loadW 1 rfl Tryz.isAgg9 rfl (fl_at (c := sc) (k := 1) (j := 0) (fun _ => rfl) hx2 rfl)) rfl ?_
    refine WO.val (PO.assign rfl) rfl ?_
    refine WO.nil ?_
    refine WP.seq ?_
    refine WP.region ?_
    refine WO.val (PO.move rfl) rfl ?_
    refine WO.val (PO.move rfl) rfl ?_
    refine WO.val (PO.nilCheck rfl) rfl ?_
    refine WO.val (PO.fieldAddr rfl Tryz.runUnderlying108 rfl Tryz.sizeOf41 rfl) rfl ?_
    refine WO.val (PO.load 0 rfl Tryz.isAgg41 rfl rfl) rfl ?_
    obtain ⟨hc3, hs⟩ := check_elim hs
    refine WO.step (SO.of rfl (EO.sliceW (c := sc) 1 (fun _ => rfl) rfl rfl Tryz.underlying41 Tryz.sizeOf9 rfl hc3)) rfl ?_
    rintro _ _ ⟨rfl, rfl⟩
    refine WO.toL [pt p0 (.cells #[.pointer (some ⟨s0, 0, none⟩), v0, v1] 108 (0, 0)), slw 9 1 (sliceFrom 1 v0 (1 : Int).toNat) (U.w.drop (1 : Int).toNat).length (fl sc (U.w.drop (1 : Int).toNat)), slc 3 1 v1 U.terms.length (fl ic U.terms), stAt s0 U.st, F] rfl ?_
    refine WO.val (PO.nilCheck rfl) rfl ?_
    refine WO.val (PO.fieldAddr rfl Tryz.runUnderlying108 rfl Tryz.sizeOf41 rfl) rfl ?_
    refine WO.step (SO.of rfl (EO.storeW 0 1 _ rfl rfl rfl Tryz.sizeOf41 rfl rfl rfl)) rfl ?_
    rintro _ _ rfl
    refine WO.toL [pt p0 (.cells #[.pointer (some ⟨s0, 0, none⟩), (sliceFrom 1 v0 (1 : Int).toNat), v1] 108 (0, 0)), slw 9 1 (sliceFrom 1 v0 (1 : Int).toNat) (U.w.drop (1 : Int).toNat).length (fl sc (U.w.drop (1 : Int).toNat)), slc 3 1 v1 U.terms.length (fl ic U.terms), stAt s0 U.st, F] rfl ?_
    refine WO.nil ?_
    refine WP.seq ?_
    refine WP.region ?_
    refine WO.val (PO.move rfl) rfl ?_
    refine WO.val (PO.assign rfl) rfl ?_
    refine WO.nil ?_
    refine WP.ret ?_
    obtain rfl := Option.some.inj hs
    exact ⟨_, (), _, _, rfl, Res.one (RV.tmp rfl), rfl, fun _ s => Sat.out [0, 1] rfl ((fun _ s => rdAt_close (u := (⟨(U.w.drop (1 : Int).toNat), U.terms, U.st⟩ : Rd)) s) _ s)⟩
attribute [irreducible] s_Rd_next

/- (*cadence/term.reader).number -/
def s_Rd_number (k : Nat) (U : Rd) : Option (Except Int (Rd × Int)) :=
  exc (s_Rd_next U) fun x1 =>
  (s_Number k x1.2).bind fun x2 =>
  cond ((x2.2 != 0) || (decide (2147483648 ≤ x2.1)))
    (some (.error 3))
    (some (.ok (x1.1, (IntKind.i64.wrap x2.1))))
theorem t_Rd_number [GlobFix] {k : Nat} {p0 : Nat} {s0 : Nat} {U : Rd} {r : Except Int (Rd × Int)}
    (hs : s_Rd_number k U = some r) :
    TriX Tryz.prog 51 [.pointer (some ⟨p0, 0, none⟩)] [rdAt p0 s0 U, gl] r faultG (fun (a_ : Rd × Int) (_ : Unit) => .int .i64 a_.2) (fun a_ _ => [rdAt p0 s0 a_.1, gl]) := by
  unfold s_Rd_number at hs
  refine TriX.of Tryz.func51 rfl Tryz.ntmps51 Tryz.results51 rfl (fun w0 F => ?_)
  refine WP.seq ?_
  refine WP.region ?_
  refine WO.val (PO.assign rfl) rfl ?_
  refine WO.nil ?_
  refine WP.seq ?_
  refine WP.region ?_
  refine WO.val (PO.move rfl) rfl ?_
  rcases exc_elim hs with ⟨q_, hx1, rfl⟩ | ⟨x1, hx1, hs⟩
  · refine WO.step (SO.of rfl (EO.callE [0] Tryz.call49 rfl rfl (t_Rd_next hx1) ⟨q_, _, rfl, rfl, fun _ s_ => Sat.out (B := [gl]) [2, 3] rfl s_⟩)) rfl ?_
    rintro _ _ h_
    exact h_.elim
  refine WO.step (SO.of rfl (EO.callX [0] Tryz.call49 rfl rfl (t_Rd_next hx1) (fun _ => ⟨rfl, trivial⟩))) rfl ?_
  rintro _ _ ⟨_, rfl, rfl⟩
  refine WO.toL [rdAt p0 s0 x1.1, gl, F] rfl ?_
  obtain ⟨x2, hx2, hs⟩ := bind_elim hs
  refine WO.step (SO.of rfl (EO.callX [1] Tryz.call71 rfl rfl (t_Number hx2) (fun _ => ⟨rfl, trivial⟩))) rfl ?_
  rintro _ _ ⟨_, rfl, rfl⟩
  refine WO.toL [rdAt p0 s0 x1.1, gl, F] rfl ?_
  refine WO.val (PO.move rfl) rfl ?_
  refine WO.val (PO.extract rfl rfl) rfl ?_
  refine WO.val (PO.extract rfl rfl) rfl ?_
  refine WO.val (PO.assign rfl) rfl ?_
  refine WO.val (PO.assign rfl) rfl ?_
  refine WO.nil ?_
  refine WP.seq ?_
  refine WP.seq ?_
  refine WP.regionG (D := [some 11, some 12, some 13, some 14, some 15, some 16]) rfl ?_
  refine WO.val (PO.move rfl) rfl ?_
  refine WO.val (PO.neq rfl rfl) rfl ?_
  refine WO.val (PO.move rfl) rfl ?_
  refine WO.guardF rfl rfl (fun hg3 => (PO.move rfl).vo) rfl ?_
  refine WO.guardF rfl rfl (fun hg4 => (PO.geq (evg hg4 rfl) rfl).vo) rfl ?_
  refine WO.val (PO.pickO rfl rfl rfl) rfl ?_
  refine WO.nil ?_
  refine WP.cond rfl (fun h5 => ?_) (fun h5 => ?_)
  · replace hs := cond_t h5 hs
    refine WP.region ?_
    refine WO.val (PO.build (v := .agg #[.int .i64 3]) rfl (fun w => by simp [Instr.build, Instr.fill, Value.cells, addr_add', Tryz.zeroValue105, Tryz.runUnderlying105, Tryz.sizeOf28])) rfl ?_
    refine WO.val (PO.makeIface rfl Tryz.runUnderlying105 rfl) rfl ?_
    obtain rfl := Option.some.inj hs
    refine WO.step (SO.of rfl (EO.panic rfl ⟨3, _, rfl, rfl, fun _ s_ => Sat.out (B := [gl]) [1, 2] rfl s_⟩)) rfl ?_
    rintro _ _ h_
    exact h_.elim
  · replace hs := cond_f h5 hs
    refine WP.skip ?_
    refine WP.seq ?_
    refine WP.region ?_
    refine WO.val (PO.move rfl) rfl ?_
    refine WO.val (PO.conv rfl Tryz.runUnderlying33 Tryz.runUnderlying3) rfl ?_
    refine WO.val (PO.assign rfl) rfl ?_
    refine WO.nil ?_
    refine WP.ret ?_
    obtain rfl := Option.some.inj hs
    exact ⟨_, (), _, _, rfl, Res.one (RV.tmp rfl), rfl, fun _ s => Sat.out [0, 1, 2] rfl s⟩
attribute [irreducible] s_Rd_number

/- (*cadence/term.reader).part -/
def s_Rd_part (k : Nat) (U : Rd) : Option (Except Int (Rd × Int)) :=
  exc (s_Rd_number k U) fun x1 =>
  cond ((decide (x1.2 < 1)) || (decide ((x1.1.terms.length : Int) < x1.2)))
    (some (.error 3))
    ((getI x1.1.terms (IntKind.i64.wrap (x1.2 - 1))).bind fun x10 =>
    some (.ok ((⟨x1.1.w, x1.1.terms, x1.1.st⟩ : Rd), x10)))
theorem t_Rd_part [GlobFix] {k : Nat} {p0 : Nat} {s0 : Nat} {U : Rd} {r : Except Int (Rd × Int)}
    (hs : s_Rd_part k U = some r) :
    TriX Tryz.prog 50 [.pointer (some ⟨p0, 0, none⟩)] [rdAt p0 s0 U, gl] r faultG (fun (a_ : Rd × Int) (_ : Unit) => .int .i64 a_.2) (fun a_ _ => [rdAt p0 s0 a_.1, gl]) := by
  unfold s_Rd_part at hs
  refine TriX.of Tryz.func50 rfl Tryz.ntmps50 Tryz.results50 rfl (fun w0 F => ?_)
  refine WP.seq ?_
  refine WP.region ?_
  refine WO.val (PO.assign rfl) rfl ?_
  refine WO.nil ?_
  refine WP.seq ?_
  refine WP.region ?_
  refine WO.val (PO.move rfl) rfl ?_
  rcases exc_elim hs with ⟨q_, hx1, rfl⟩ | ⟨x1, hx1, hs⟩
  · refine WO.step (SO.of rfl (EO.callE [0, 1] Tryz.call51 rfl rfl (t_Rd_number hx1) ⟨q_, _, rfl, rfl, fun _ s_ => Sat.out (B := [gl]) [0, 3] rfl s_⟩)) rfl ?_
    rintro _ _ h_
    exact h_.elim
  refine WO.step (SO.of rfl (EO.callX [0, 1] Tryz.call51 rfl rfl (t_Rd_number hx1) (fun _ => ⟨rfl, rfl, trivial⟩))) rfl ?_
  rintro _ _ ⟨_, rfl, rfl⟩
  refine WO.toL [rdAt p0 s0 x1.1, gl, F] rfl ?_
  refine WO.val (PO.assign rfl) rfl ?_
  refine WO.nil ?_
  refine WP.seq ?_
  refine WP.seq ?_
  refine WP.openRd (fun v0 v1 => ?_)
  refine WP.regionG (D := [some 6, some 7, some 8, some 9, some 10, some 11, some 12, some 13, some 14, some 15, some 16]) rfl ?_
  refine WO.val (PO.move rfl) rfl ?_
  refine WO.val (PO.lss rfl rfl) rfl ?_
  refine WO.val (PO.move rfl) rfl ?_
  refine WO.guardF rfl rfl (fun hg2 => (PO.move rfl).vo) rfl ?_
  refine WO.guardF rfl rfl (fun hg3 => (PO.move rfl).vo) rfl ?_
  refine WO.guardF rfl rfl (fun hg4 => (PO.nilCheck (evg hg4 rfl)).vo) rfl ?_
  refine WO.guardF rfl rfl (fun hg5 => (PO.fieldAddr (evg hg5 rfl) Tryz.runUnderlying108 rfl Tryz.sizeOf24 rfl).vo) rfl ?_
  refine WO.guardF rfl rfl (fun hg6 => (PO.load 0 (evg hg6 rfl) Tryz.isAgg24 rfl rfl).vo) rfl ?_
  refine WO.guardF rfl rfl (fun hg7 => (PO.lenL 2 (evg hg7 rfl) Tryz.runUnderlying24 rfl).vo) rfl ?_
  refine WO.guardF rfl rfl (fun hg8 => (PO.gtr (evg hg8 rfl) (evg hg8 rfl)).vo) rfl ?_
  refine WO.val (PO.pickO rfl rfl rfl) rfl ?_
  refine WO.nil ?_
  refine WP.cond rfl (fun h9 => ?_) (fun h9 => ?_)
  · replace hs := cond_t h9 hs
    refine WP.region ?_
    refine WO.val (PO.build (v := .agg #[.int .i64 3]) rfl (fun w => by simp [Instr.build, Instr.fill, Value.cells, addr_add', Tryz.zeroValue105, Tryz.runUnderlying105, Tryz.sizeOf28])) rfl ?_
    refine WO.val (PO.makeIface rfl Tryz.runUnderlying105 rfl) rfl ?_
    obtain rfl := Option.some.inj hs
    refine WO.step (SO.of rfl (EO.panic rfl ⟨3, _, rfl, rfl, fun _ s_ => Sat.out (B := [gl]) [4, 5] rfl s_⟩)) rfl ?_
    rintro _ _ h_
    exact h_.elim
  · replace hs := cond_f h9 hs
    refine WP.skip ?_
    refine WP.seq ?_
    refine WP.region ?_
    refine WO.val (PO.move rfl) rfl ?_
    refine WO.val (PO.nilCheck rfl) rfl ?_
    refine WO.val (PO.fieldAddr rfl Tryz.runUnderlying108 rfl Tryz.sizeOf24 rfl) rfl ?_
    refine WO.val (PO.load 0 rfl Tryz.isAgg24 rfl rfl) rfl ?_
    refine WO.val (PO.move rfl) rfl ?_
    refine WO.val (PO.sub rfl rfl) rfl ?_
    obtain ⟨x10, hx10, hs⟩ := bind_elim hs
    refine WO.val (PO.idxL 2 rfl rfl Tryz.runUnderlying24 Tryz.sizeOf3 rfl hx10) rfl ?_
    refine WO.val (PO.loadL 2 rfl Tryz.isAgg3 rfl (fl_at (c := ic) (k := 1) (j := 0) (fun _ => rfl) hx10 rfl)) rfl ?_
    refine WO.val (PO.assign rfl) rfl ?_
    refine WO.nil ?_
    refine WP.ret ?_
    obtain rfl := Option.some.inj hs
    exact ⟨_, (), _, _, rfl, Res.one (RV.tmp rfl), rfl, fun _ s => Sat.out [0, 1, 2] rfl ((fun _ s => rdAt_close (u := (⟨x1.1.w, x1.1.terms, x1.1.st⟩ : Rd)) s) _ s)⟩
attribute [irreducible] s_Rd_part

/- (*cadence/term.reader).node -/
def s_Rd_node_j1 (k : Nat) (x2 : Int) (j4_1 : Int) (j4_2 : Int) (j4_3 : ByteArray) (j5_0 : Rd) (j5_1 : Int) (j5_2 : Int) (j5_3 : Int) : Option (Except Int (Rd × Int)) :=
  cond (x2 == 31)
    (exc (s_Rd_number k j5_0) fun x7 =>
    exc (s_Rd_number k x7.1) fun x8 =>
    cond (decide (0 < (x8.1.w.length : Int)))
      (some (.error 3))
      ((s_St_Make k x8.1.st (⟨x2, x8.2, j5_3, j5_2, j5_1, (IntKind.u64.wrap x7.2), j4_3⟩ : Nd)).bind fun x11 =>
      cond (x11.2.2 != 0)
        (some (.error x11.2.2))
        (some (.ok ((⟨x8.1.w, x8.1.terms, x11.1⟩ : Rd), x11.2.1)))))
    (cond ((x2 == 32) || (x2 == 33))
      (exc (s_Rd_number k j5_0) fun x17 =>
      cond (decide (0 < (x17.1.w.length : Int)))
        (some (.error 3))
        ((s_St_Make k x17.1.st (⟨x2, x17.2, j5_3, j5_2, j5_1, j4_2, j4_3⟩ : Nd)).bind fun x20 =>
        cond (x20.2.2 != 0)
          (some (.error x20.2.2))
          (some (.ok ((⟨x17.1.w, x17.1.terms, x20.1⟩ : Rd), x20.2.1)))))
      (cond (x2 == 14)
        ((s_St_w j5_0.st j5_2).bind fun x25 =>
        cond (decide (0 < (j5_0.w.length : Int)))
          (some (.error 3))
          ((s_St_Make k j5_0.st (⟨x2, x25, j5_3, j5_2, j5_1, j4_2, j4_3⟩ : Nd)).bind fun x28 =>
          cond (x28.2.2 != 0)
            (some (.error x28.2.2))
            (some (.ok ((⟨j5_0.w, j5_0.terms, x28.1⟩ : Rd), x28.2.1)))))
        (cond (x2 == 30)
          ((s_St_w j5_0.st j5_3).bind fun x33 =>
          (s_St_w j5_0.st j5_2).bind fun x34 =>
          cond (decide (64 < (minI (IntKind.i64.wrap (x33 + x34)) 65)))
            (cond (decide (0 < (j5_0.w.length : Int)))
              (some (.error 3))
              ((s_St_Make k j5_0.st (⟨x2, 0, j5_3, j5_2, j5_1, j4_2, j4_3⟩ : Nd)).bind fun x38 =>
              cond (x38.2.2 != 0)
                (some (.error x38.2.2))
                (some (.ok ((⟨j5_0.w, j5_0.terms, x38.1⟩ : Rd), x38.2.1)))))
            (cond (decide (0 < (j5_0.w.length : Int)))
              (some (.error 3))
              ((s_St_Make k j5_0.st (⟨x2, (minI (IntKind.i64.wrap (x33 + x34)) 65), j5_3, j5_2, j5_1, j4_2, j4_3⟩ : Nd)).bind fun x43 =>
              cond (x43.2.2 != 0)
                (some (.error x43.2.2))
                (some (.ok ((⟨j5_0.w, j5_0.terms, x43.1⟩ : Rd), x43.2.1))))))
          (cond ((decide (15 ≤ x2)) && (decide (x2 ≤ 29)))
            ((s_St_w j5_0.st j5_3).bind fun x50 =>
            cond (decide (0 < (j5_0.w.length : Int)))
              (some (.error 3))
              ((s_St_Make k j5_0.st (⟨x2, x50, j5_3, j5_2, j5_1, j4_2, j4_3⟩ : Nd)).bind fun x53 =>
              cond (x53.2.2 != 0)
                (some (.error x53.2.2))
                (some (.ok ((⟨j5_0.w, j5_0.terms, x53.1⟩ : Rd), x53.2.1)))))
            (cond (decide (0 < (j5_0.w.length : Int)))
              (some (.error 3))
              ((s_St_Make k j5_0.st (⟨x2, j4_1, j5_3, j5_2, j5_1, j4_2, j4_3⟩ : Nd)).bind fun x58 =>
              cond (x58.2.2 != 0)
                (some (.error x58.2.2))
                (some (.ok ((⟨j5_0.w, j5_0.terms, x58.1⟩ : Rd), x58.2.1)))))))))
def s_Rd_node_j0 (k : Nat) (x2 : Int) (j4_0 : Rd) (j4_1 : Int) (j4_2 : Int) (j4_3 : ByteArray) : Option (Except Int (Rd × Int)) :=
  lt (s_parts x2) fun x61 =>
  cond (decide (0 < x61))
    (exc (s_Rd_part k j4_0) fun x64 =>
    cond (decide (1 < x61))
      (exc (s_Rd_part k x64.1) fun x67 =>
      cond (decide (2 < x61))
        (exc (s_Rd_part k x67.1) fun x70 =>
        cond (decide (3 < x61))
          (none)
          (s_Rd_node_j1 k x2 j4_1 j4_2 j4_3 x70.1 x70.2 x67.2 x64.2))
        (s_Rd_node_j1 k x2 j4_1 j4_2 j4_3 x67.1 0 x67.2 x64.2))
      (s_Rd_node_j1 k x2 j4_1 j4_2 j4_3 x64.1 0 0 x64.2))
    (s_Rd_node_j1 k x2 j4_1 j4_2 j4_3 j4_0 0 0 0)
def s_Rd_node (k : Nat) (U : Rd) : Option (Except Int (Rd × Int)) :=
  exc (s_Rd_next U) fun x1 =>
  exc (s_operation k x1.2) fun x2 =>
  cond (x2 == 3)
    (exc (s_Rd_number k x1.1) fun x73 =>
    exc (s_Rd_next x73.1) fun x74 =>
    (s_Number k x74.2).bind fun x75 =>
    cond (x75.2 != 0)
      (some (.error 3))
      (s_Rd_node_j0 k x2 x74.1 x73.2 x75.1 (ByteArray.mk #[])))
    (cond (x2 == 4)
      (exc (s_Rd_next x1.1) fun x78 =>
      exc (s_Rd_number k x78.1) fun x79 =>
      s_Rd_node_j0 k x2 x79.1 x79.2 0 x78.2)
      (s_Rd_node_j0 k x2 x1.1 0 0 (ByteArray.mk #[])))
theorem t_Rd_node [GlobFix] {k : Nat} {p0 : Nat} {s0 : Nat} {U : Rd} {r : Except Int (Rd × Int)}
    (hs : s_Rd_node k U = some r) :
    TriX Tryz.prog 52 [.pointer (some ⟨p0, 0, none⟩)] [rdAt p0 s0 U, gl] r faultG (fun (a_ : Rd × Int) (_ : Unit) => .int .i64 a_.2) (fun a_ _ => [rdAt p0 s0 a_.1, gl]) := by
  unfold s_Rd_node at hs
  refine TriX.of Tryz.func52 rfl Tryz.ntmps52 Tryz.results52 rfl (fun w0 F => ?_)
  refine WP.seq ?_
  refine WP.region ?_
  refine WO.val (PO.assign rfl) rfl ?_
  refine WO.nil ?_
  refine WP.seq ?_
  refine WP.region ?_
  refine WO.val (PO.move rfl) rfl ?_
  rcases exc_elim hs with ⟨q_, hx1, rfl⟩ | ⟨x1, hx1, hs⟩
  · refine WO.step (SO.of rfl (EO.callE [0] Tryz.call49 rfl rfl (t_Rd_next hx1) ⟨q_, _, rfl, rfl, fun _ s_ => Sat.out (B := [gl]) [2, 3] rfl s_⟩)) rfl ?_
    rintro _ _ h_
    exact h_.elim
  refine WO.step (SO.of rfl (EO.callX [0] Tryz.call49 rfl rfl (t_Rd_next hx1) (fun _ => ⟨rfl, trivial⟩))) rfl ?_
  rintro _ _ ⟨_, rfl, rfl⟩
  refine WO.toL [rdAt p0 s0 x1.1, gl, F] rfl ?_
  rcases exc_elim hs with ⟨q_, hx2, rfl⟩ | ⟨x2, hx2, hs⟩
  · refine WO.step (SO.of rfl (EO.callE [1] Tryz.call72 rfl rfl (t_operation hx2) ⟨q_, _, rfl, rfl, fun _ s_ => Sat.out (B := [gl]) [0, 3] rfl s_⟩)) rfl ?_
    rintro _ _ h_
    exact h_.elim
  refine WO.step (SO.of rfl (EO.callX [1] Tryz.call72 rfl rfl (t_operation hx2) (fun _ => ⟨rfl, trivial⟩))) rfl ?_
  rintro _ _ ⟨_, rfl, rfl⟩
  refine WO.toL [rdAt p0 s0 x1.1, gl, F] rfl ?_
  refine WO.val (PO.build (v := .agg #[.int .i64 x2, .int .i64 0, .int .i64 0, .int .i64 0, .int .i64 0, .int .u64 0, .string (ByteArray.mk #[])]) rfl (fun w => by simp [Instr.build, Instr.fill, Value.cells, addr_add', Tryz.zeroValue45, Tryz.runUnderlying45, Tryz.sizeOf3, Tryz.sizeOf9, Tryz.sizeOf33])) rfl ?_
  refine WO.step (SO.of rfl (EO.alloc Tryz.zeroValue45)) rfl ?_
  rintro _ _ ⟨b3, rfl, rfl⟩
  refine WO.toL [rdAt p0 s0 x1.1, gl, F, pt b3 (.cells #[.int .i64 0, .int .i64 0, .int .i64 0, .int .i64 0, .int .i64 0, .int .u64 0, .string (ByteArray.mk #[])] 45 (0, 0))] rfl ?_
  refine WO.step (SO.of rfl (EO.store 3 _ rfl rfl Tryz.sizeOf45 rfl rfl rfl rfl)) rfl ?_
  rintro _ _ rfl
  refine WO.toL [rdAt p0 s0 x1.1, gl, F, pt b3 (.cells #[.int .i64 x2, .int .i64 0, .int .i64 0, .int .i64 0, .int .i64 0, .int .u64 0, .string (ByteArray.mk #[])] 45 (0, 0))] rfl ?_
  refine WO.nil ?_
  refine WP.seq ?_
  refine WP.join (fun f_ L_ => ∃ (j4_0 : Rd) (j4_1 : Int) (j4_2 : Int) (j4_3 : ByteArray), Holds f_ [(0, .pointer (some ⟨p0, 0, none⟩)), (2, .int .i64 0), (3, .pointer (some ⟨b3, 0, none⟩))] ∧ L_ = [rdAt p0 s0 j4_0, gl, F, pt b3 (.cells #[.int .i64 x2, .int .i64 j4_1, .int .i64 0, .int .i64 0, .int .i64 0, .int .u64 j4_2, .string j4_3] 45 (0, 0))] ∧ s_Rd_node_j0 k x2 j4_0 j4_1 j4_2 j4_3 = some r) ?_ ?_
  · refine WP.seq ?_
    refine WP.region ?_
    refine WO.val (PO.fieldAddr rfl Tryz.runUnderlying45 rfl Tryz.sizeOf3 rfl) rfl ?_
    refine WO.val (PO.load 3 rfl Tryz.isAgg3 rfl rfl) rfl ?_
    refine WO.nil ?_
    refine WP.block ?_
    refine WP.seq ?_
    refine WP.region ?_
    refine WO.val (PO.eql rfl rfl) rfl ?_
    refine WO.val (PO.assign rfl) rfl ?_
    refine WO.nil ?_
    refine WP.cond rfl (fun h72 => ?_) (fun h72 => ?_)
    · replace hs := cond_t h72 hs
      refine WP.seq ?_
      refine WP.region ?_
      refine WO.val (PO.move rfl) rfl ?_
      rcases exc_elim hs with ⟨q_, hx73, rfl⟩ | ⟨x73, hx73, hs⟩
      · refine WO.step (SO.of rfl (EO.callE [0, 1] Tryz.call51 rfl rfl (t_Rd_number hx73) ⟨q_, _, rfl, rfl, fun _ s_ => Sat.out (B := [gl]) [0, 3] rfl s_⟩)) rfl ?_
        rintro _ _ h_
        exact h_.elim
      refine WO.step (SO.of rfl (EO.callX [0, 1] Tryz.call51 rfl rfl (t_Rd_number hx73) (fun _ => ⟨rfl, rfl, trivial⟩))) rfl ?_
      rintro _ _ ⟨_, rfl, rfl⟩
      refine WO.toL [rdAt p0 s0 x73.1, gl, F, pt b3 (.cells #[.int .i64 x2, .int .i64 0, .int .i64 0, .int .i64 0, .int .i64 0, .int .u64 0, .string (ByteArray.mk #[])] 45 (0, 0))] rfl ?_
      refine WO.val (PO.fieldAddr rfl Tryz.runUnderlying45 rfl Tryz.sizeOf3 rfl) rfl ?_
      refine WO.step (SO.of rfl (EO.store 3 _ rfl rfl Tryz.sizeOf3 rfl rfl rfl rfl)) rfl ?_
      rintro _ _ rfl
      refine WO.toL [rdAt p0 s0 x73.1, gl, F, pt b3 (.cells #[.int .i64 x2, .int .i64 x73.2, .int .i64 0, .int .i64 0, .int .i64 0, .int .u64 0, .string (ByteArray.mk #[])] 45 (0, 0))] rfl ?_
      refine WO.nil ?_
      refine WP.seq ?_
      refine WP.region ?_
      refine WO.val (PO.move rfl) rfl ?_
      rcases exc_elim hs with ⟨q_, hx74, rfl⟩ | ⟨x74, hx74, hs⟩
      · refine WO.step (SO.of rfl (EO.callE [0] Tryz.call49 rfl rfl (t_Rd_next hx74) ⟨q_, _, rfl, rfl, fun _ s_ => Sat.out (B := [gl]) [2, 3] rfl s_⟩)) rfl ?_
        rintro _ _ h_
        exact h_.elim
      refine WO.step (SO.of rfl (EO.callX [0] Tryz.call49 rfl rfl (t_Rd_next hx74) (fun _ => ⟨rfl, trivial⟩))) rfl ?_
      rintro _ _ ⟨_, rfl, rfl⟩
      refine WO.toL [rdAt p0 s0 x74.1, gl, F, pt b3 (.cells #[.int .i64 x2, .int .i64 x73.2, .int .i64 0, .int .i64 0, .int .i64 0, .int .u64 0, .string (ByteArray.mk #[])] 45 (0, 0))] rfl ?_
      obtain ⟨x75, hx75, hs⟩ := bind_elim hs
      refine WO.step (SO.of rfl (EO.callX [1] Tryz.call71 rfl rfl (t_Number hx75) (fun _ => ⟨rfl, trivial⟩))) rfl ?_
      rintro _ _ ⟨_, rfl, rfl⟩
      refine WO.toL [rdAt p0 s0 x74.1, gl, F, pt b3 (.cells #[.int .i64 x2, .int .i64 x73.2, .int .i64 0, .int .i64 0, .int .i64 0, .int .u64 0, .string (ByteArray.mk #[])] 45 (0, 0))] rfl ?_
      refine WO.val (PO.move rfl) rfl ?_
      refine WO.val (PO.extract rfl rfl) rfl ?_
      refine WO.val (PO.extract rfl rfl) rfl ?_
      refine WO.val (PO.assign rfl) rfl ?_
      refine WO.val (PO.assign rfl) rfl ?_
      refine WO.nil ?_
      refine WP.seq ?_
      refine WP.seq ?_
      refine WP.region ?_
      refine WO.val (PO.move rfl) rfl ?_
      refine WO.val (PO.neq rfl rfl) rfl ?_
      refine WO.nil ?_
      refine WP.cond rfl (fun h76 => ?_) (fun h76 => ?_)
      · replace hs := cond_t h76 hs
        refine WP.region ?_
        refine WO.val (PO.build (v := .agg #[.int .i64 3]) rfl (fun w => by simp [Instr.build, Instr.fill, Value.cells, addr_add', Tryz.zeroValue105, Tryz.runUnderlying105, Tryz.sizeOf28])) rfl ?_
        refine WO.val (PO.makeIface rfl Tryz.runUnderlying105 rfl) rfl ?_
        obtain rfl := Option.some.inj hs
        refine WO.step (SO.of rfl (EO.panic rfl ⟨3, _, rfl, rfl, fun _ s_ => Sat.out (B := [gl]) [1, 2] rfl s_⟩)) rfl ?_
        rintro _ _ h_
        exact h_.elim
      · replace hs := cond_f h76 hs
        refine WP.skip ?_
        refine WP.region ?_
        refine WO.val (PO.move rfl) rfl ?_
        refine WO.val (PO.fieldAddr rfl Tryz.runUnderlying45 rfl Tryz.sizeOf33 rfl) rfl ?_
        refine WO.step (SO.of rfl (EO.store 3 _ rfl rfl Tryz.sizeOf33 rfl rfl rfl rfl)) rfl ?_
        rintro _ _ rfl
        refine WO.toL [rdAt p0 s0 x74.1, gl, F, pt b3 (.cells #[.int .i64 x2, .int .i64 x73.2, .int .i64 0, .int .i64 0, .int .i64 0, .int .u64 x75.1, .string (ByteArray.mk #[])] 45 (0, 0))] rfl ?_
        refine WO.nil ?_
        exact ⟨_, ⟨x74.1, x73.2, x75.1, (ByteArray.mk #[]), ⟨rfl, rfl, rfl, trivial⟩, rfl, hs⟩, fun _ s => s⟩
    · replace hs := cond_f h72 hs
      refine WP.seq ?_
      refine WP.region ?_
      refine WO.val (PO.eql rfl rfl) rfl ?_
      refine WO.val (PO.assign rfl) rfl ?_
      refine WO.nil ?_
      refine WP.cond rfl (fun h77 => ?_) (fun h77 => ?_)
      · replace hs := cond_t h77 hs
        refine WP.seq ?_
        refine WP.region ?_
        refine WO.val (PO.move rfl) rfl ?_
        rcases exc_elim hs with ⟨q_, hx78, rfl⟩ | ⟨x78, hx78, hs⟩
        · refine WO.step (SO.of rfl (EO.callE [0] Tryz.call49 rfl rfl (t_Rd_next hx78) ⟨q_, _, rfl, rfl, fun _ s_ => Sat.out (B := [gl]) [2, 3] rfl s_⟩)) rfl ?_
          rintro _ _ h_
          exact h_.elim
        refine WO.step (SO.of rfl (EO.callX [0] Tryz.call49 rfl rfl (t_Rd_next hx78) (fun _ => ⟨rfl, trivial⟩))) rfl ?_
        rintro _ _ ⟨_, rfl, rfl⟩
        refine WO.toL [rdAt p0 s0 x78.1, gl, F, pt b3 (.cells #[.int .i64 x2, .int .i64 0, .int .i64 0, .int .i64 0, .int .i64 0, .int .u64 0, .string (ByteArray.mk #[])] 45 (0, 0))] rfl ?_
        refine WO.val (PO.fieldAddr rfl Tryz.runUnderlying45 rfl Tryz.sizeOf9 rfl) rfl ?_
        refine WO.step (SO.of rfl (EO.store 3 _ rfl rfl Tryz.sizeOf9 rfl rfl rfl rfl)) rfl ?_
        rintro _ _ rfl
        refine WO.toL [rdAt p0 s0 x78.1, gl, F, pt b3 (.cells #[.int .i64 x2, .int .i64 0, .int .i64 0, .int .i64 0, .int .i64 0, .int .u64 0, .string x78.2] 45 (0, 0))] rfl ?_
        refine WO.nil ?_
        refine WP.region ?_
        refine WO.val (PO.move rfl) rfl ?_
        rcases exc_elim hs with ⟨q_, hx79, rfl⟩ | ⟨x79, hx79, hs⟩
        · refine WO.step (SO.of rfl (EO.callE [0, 1] Tryz.call51 rfl rfl (t_Rd_number hx79) ⟨q_, _, rfl, rfl, fun _ s_ => Sat.out (B := [gl]) [0, 3] rfl s_⟩)) rfl ?_
          rintro _ _ h_
          exact h_.elim
        refine WO.step (SO.of rfl (EO.callX [0, 1] Tryz.call51 rfl rfl (t_Rd_number hx79) (fun _ => ⟨rfl, rfl, trivial⟩))) rfl ?_
        rintro _ _ ⟨_, rfl, rfl⟩
        refine WO.toL [rdAt p0 s0 x79.1, gl, F, pt b3 (.cells #[.int .i64 x2, .int .i64 0, .int .i64 0, .int .i64 0, .int .i64 0, .int .u64 0, .string x78.2] 45 (0, 0))] rfl ?_
        refine WO.val (PO.fieldAddr rfl Tryz.runUnderlying45 rfl Tryz.sizeOf3 rfl) rfl ?_
        refine WO.step (SO.of rfl (EO.store 3 _ rfl rfl Tryz.sizeOf3 rfl rfl rfl rfl)) rfl ?_
        rintro _ _ rfl
        refine WO.toL [rdAt p0 s0 x79.1, gl, F, pt b3 (.cells #[.int .i64 x2, .int .i64 x79.2, .int .i64 0, .int .i64 0, .int .i64 0, .int .u64 0, .string x78.2] 45 (0, 0))] rfl ?_
        refine WO.nil ?_
        exact ⟨_, ⟨x79.1, x79.2, 0, x78.2, ⟨rfl, rfl, rfl, trivial⟩, rfl, hs⟩, fun _ s => s⟩
      · replace hs := cond_f h77 hs
        refine WP.skip ?_
        exact ⟨_, ⟨x1.1, 0, 0, (ByteArray.mk #[]), ⟨rfl, rfl, rfl, trivial⟩, rfl, hs⟩, fun _ s => s⟩
  · rintro f_ L_ ⟨j4_0, j4_1, j4_2, j4_3, hf_, rfl, hs⟩
    refine WP.keep [(0, .pointer (some ⟨p0, 0, none⟩)), (2, .int .i64 0), (3, .pointer (some ⟨b3, 0, none⟩))] hf_ ?_
    unfold s_Rd_node_j0 at hs
    refine WP.seq ?_
    refine WP.join (fun f_ L_ => ∃ (j5_0 : Rd) (j5_1 : Int) (j5_2 : Int) (j5_3 : Int), Holds f_ [(3, .pointer (some ⟨b3, 0, none⟩)), (0, .pointer (some ⟨p0, 0, none⟩))] ∧ L_ = [rdAt p0 s0 j5_0, gl, F, pt b3 (.cells #[.int .i64 x2, .int .i64 j4_1, .int .i64 j5_3, .int .i64 j5_2, .int .i64 j5_1, .int .u64 j4_2, .string j4_3] 45 (0, 0))] ∧ s_Rd_node_j1 k x2 j4_1 j4_2 j4_3 j5_0 j5_1 j5_2 j5_3 = some r) ?_ ?_
    · refine WP.seq ?_
      refine WP.region ?_
      refine WO.val (PO.fieldAddr rfl Tryz.runUnderlying45 rfl Tryz.sizeOf3 rfl) rfl ?_
      refine WO.val (PO.load 3 rfl Tryz.isAgg3 rfl rfl) rfl ?_
      obtain ⟨x61, hx61, hs⟩ := lt_elim hs
      refine WO.vo (VO.call0 Tryz.call42 rfl (t_parts hx61)) rfl ?_
      refine WO.val (PO.move rfl) rfl ?_
      refine WO.nil ?_
      refine WP.block ?_
      refine WP.rounds 4 ?_
      refine WPR.succ ?_
      refine WP.seq ?_
      refine WP.region ?_
      refine WO.val (PO.lss rfl rfl) rfl ?_
      refine WO.nil ?_
      refine WP.seq ?_
      refine WP.cond rfl (fun h62 => ?_) (fun h62 => ?_)
      · replace hs := cond_t h62 hs
        refine WP.skip ?_
        refine WP.seq ?_
        refine WP.block ?_
        refine WP.seq ?_
        refine WP.region ?_
        refine WO.val (PO.move rfl) rfl ?_
        refine WO.val (PO.assign rfl) rfl ?_
        refine WO.nil ?_
        rcases exc_elim hs with ⟨q_, hx64, rfl⟩ | ⟨x64, hx64, hs⟩
        · refine WP.never (WP.draw (γ := Unit) Tryz.mixedRdr [some 47, some 48, some 49, some 50, some 51, some 52, some 53, some 54, some 55, none] rfl [(0, .pointer (some ⟨p0, 0, none⟩)), (2, .int .i64 0), (3, .pointer (some ⟨b3, 0, none⟩)), (43, .int .i64 x61), (44, .int .i64 0), (6, .int .i64 0)] ⟨rfl, rfl, rfl, rfl, rfl, rfl, trivial⟩ (fun _ => [.pointer (some ⟨b3, 2, none⟩), .pointer (some ⟨b3, 3, none⟩), .pointer (some ⟨b3, 4, none⟩), .agg #[.pointer (some ⟨b3, 2, none⟩), .pointer (some ⟨b3, 3, none⟩), .pointer (some ⟨b3, 4, none⟩)], .int .i64 0, .pointer (some ⟨b3, 2, none⟩), .pointer (some ⟨p0, 0, none⟩), undef, undef, undef]) [⟨[], 0, 1, false⟩, ⟨[], 0, 1, false⟩, ⟨[], 0, 1, false⟩, ⟨[0, 1, 2], 0, 1, false⟩, ⟨[], 0, 1, false⟩, ⟨[3, 4], 0, 1, false⟩, ⟨[], 0, 0, false⟩, ⟨[6], 0, 0, true⟩, ⟨[5, 5], 1, 0, false⟩, ⟨[8, 7, 7, 7], 1, 0, true⟩] [7, 9] (fun _ => [[rdAt p0 s0 j4_0, gl, F, pt b3 (.cells #[.int .i64 x2, .int .i64 j4_1, .int .i64 0, .int .i64 0, .int .i64 0, .int .u64 j4_2, .string j4_3] 45 (0, 0))], [nev], [nev]]) rfl rfl rfl ⟨⟨(fun _ => SO.at (SO.val (PO.fieldAddr rfl Tryz.runUnderlying45 rfl Tryz.sizeOf3 rfl) rfl) rfl rfl), (fun _ => SO.no rfl)⟩, ⟨(fun _ => SO.at (SO.val (PO.fieldAddr rfl Tryz.runUnderlying45 rfl Tryz.sizeOf3 rfl) rfl) rfl rfl), (fun _ => SO.no rfl)⟩, ⟨(fun _ => SO.at (SO.val (PO.fieldAddr rfl Tryz.runUnderlying45 rfl Tryz.sizeOf3 rfl) rfl) rfl rfl), (fun _ => SO.no rfl)⟩, ⟨(fun _ => SO.at (SO.val (PO.build (v := .agg #[.pointer (some ⟨b3, 2, none⟩), .pointer (some ⟨b3, 3, none⟩), .pointer (some ⟨b3, 4, none⟩)]) rfl (fun w => by simp [Instr.build, Instr.fill, Value.cells, addr_add', Tryz.zeroValue121, Tryz.runUnderlying121, Tryz.sizeOf120])) rfl) rfl rfl), (fun _ => SO.no rfl)⟩, ⟨(fun _ => SO.at (SO.val (PO.move rfl) rfl) rfl rfl), (fun _ => SO.no rfl)⟩, ⟨(fun _ => SO.at (SO.val (PO.idxArr (i := 0) rfl rfl Tryz.runUnderlying121 Tryz.sizeOf120 Tryz.isAgg120 rfl rfl rfl) rfl) rfl rfl), (fun _ => SO.no rfl)⟩, (fun _ => SO.at (SO.val (PO.move rfl) rfl) rfl rfl), (fun _ => SO.eff (EO.callE [0, 1] Tryz.call50 rfl rfl (t_Rd_part hx64) ⟨q_, _, rfl, rfl, fun _ s_ => Sat.out (B := [gl]) [0, 3] rfl s_⟩) rfl fun _ _ h_ => h_.elim), (fun _ => SO.no rfl), (fun _ => SO.no rfl), trivial⟩ (fun _ => [nev]) (fun _ => rfl) (fun _ => [(47, .pointer (some ⟨b3, 2, none⟩)), (48, .pointer (some ⟨b3, 3, none⟩)), (49, .pointer (some ⟨b3, 4, none⟩)), (50, .agg #[.pointer (some ⟨b3, 2, none⟩), .pointer (some ⟨b3, 3, none⟩), .pointer (some ⟨b3, 4, none⟩)]), (51, .int .i64 0), (52, .pointer (some ⟨b3, 2, none⟩)), (53, .pointer (some ⟨p0, 0, none⟩)), (54, undef), (55, undef), (0, .pointer (some ⟨p0, 0, none⟩)), (2, .int .i64 0), (3, .pointer (some ⟨b3, 0, none⟩)), (43, .int .i64 x61), (44, .int .i64 0), (6, .int .i64 0)]) (fun _ => rfl) (fun _ => rfl))
        refine WP.draw (γ := Unit) Tryz.mixedRdr [some 47, some 48, some 49, some 50, some 51, some 52, some 53, some 54, some 55, none] rfl [(0, .pointer (some ⟨p0, 0, none⟩)), (2, .int .i64 0), (3, .pointer (some ⟨b3, 0, none⟩)), (43, .int .i64 x61), (44, .int .i64 0), (6, .int .i64 0)] ⟨rfl, rfl, rfl, rfl, rfl, rfl, trivial⟩ (fun g63 => [.pointer (some ⟨b3, 2, none⟩), .pointer (some ⟨b3, 3, none⟩), .pointer (some ⟨b3, 4, none⟩), .agg #[.pointer (some ⟨b3, 2, none⟩), .pointer (some ⟨b3, 3, none⟩), .pointer (some ⟨b3, 4, none⟩)], .int .i64 0, .pointer (some ⟨b3, 2, none⟩), .pointer (some ⟨p0, 0, none⟩), .int .i64 x64.2, .pointer (some ⟨b3, 2, none⟩), undef]) [⟨[], 0, 1, false⟩, ⟨[], 0, 1, false⟩, ⟨[], 0, 1, false⟩, ⟨[0, 1, 2], 0, 1, false⟩, ⟨[], 0, 1, false⟩, ⟨[3, 4], 0, 1, false⟩, ⟨[], 0, 0, false⟩, ⟨[6], 0, 0, true⟩, ⟨[5, 5], 1, 0, false⟩, ⟨[8, 7, 7, 7], 1, 0, true⟩] [7, 9] (fun g63 => [[rdAt p0 s0 j4_0, gl, F, pt b3 (.cells #[.int .i64 x2, .int .i64 j4_1, .int .i64 0, .int .i64 0, .int .i64 0, .int .u64 j4_2, .string j4_3] 45 (0, 0))], [rdAt p0 s0 x64.1, gl, F, pt b3 (.cells #[.int .i64 x2, .int .i64 j4_1, .int .i64 0, .int .i64 0, .int .i64 0, .int .u64 j4_2, .string j4_3] 45 (0, 0))], [rdAt p0 s0 x64.1, gl, F, pt b3 (.cells #[.int .i64 x2, .int .i64 j4_1, .int .i64 x64.2, .int .i64 0, .int .i64 0, .int .u64 j4_2, .string j4_3] 45 (0, 0))]]) rfl rfl rfl ⟨⟨(fun g63 => SO.at (SO.val (PO.fieldAddr rfl Tryz.runUnderlying45 rfl Tryz.sizeOf3 rfl) rfl) rfl rfl), (fun g63 => SO.at (SO.val (PO.fieldAddr rfl Tryz.runUnderlying45 rfl Tryz.sizeOf3 rfl) rfl) rfl rfl)⟩, ⟨(fun g63 => SO.at (SO.val (PO.fieldAddr rfl Tryz.runUnderlying45 rfl Tryz.sizeOf3 rfl) rfl) rfl rfl), (fun g63 => SO.at (SO.val (PO.fieldAddr rfl Tryz.runUnderlying45 rfl Tryz.sizeOf3 rfl) rfl) rfl rfl)⟩, ⟨(fun g63 => SO.at (SO.val (PO.fieldAddr rfl Tryz.runUnderlying45 rfl Tryz.sizeOf3 rfl) rfl) rfl rfl), (fun g63 => SO.at (SO.val (PO.fieldAddr rfl Tryz.runUnderlying45 rfl Tryz.sizeOf3 rfl) rfl) rfl rfl)⟩, ⟨(fun g63 => SO.at (SO.val (PO.build (v := .agg #[.pointer (some ⟨b3, 2, none⟩), .pointer (some ⟨b3, 3, none⟩), .pointer (some ⟨b3, 4, none⟩)]) rfl (fun w => by simp [Instr.build, Instr.fill, Value.cells, addr_add', Tryz.zeroValue121, Tryz.runUnderlying121, Tryz.sizeOf120])) rfl) rfl rfl), (fun g63 => SO.at (SO.val (PO.build (v := .agg #[.pointer (some ⟨b3, 2, none⟩), .pointer (some ⟨b3, 3, none⟩), .pointer (some ⟨b3, 4, none⟩)]) rfl (fun w => by simp [Instr.build, Instr.fill, Value.cells, addr_add', Tryz.zeroValue121, Tryz.runUnderlying121, Tryz.sizeOf120])) rfl) rfl rfl)⟩, ⟨(fun g63 => SO.at (SO.val (PO.move rfl) rfl) rfl rfl), (fun g63 => SO.at (SO.val (PO.move rfl) rfl) rfl rfl)⟩, ⟨(fun g63 => SO.at (SO.val (PO.idxArr (i := 0) rfl rfl Tryz.runUnderlying121 Tryz.sizeOf120 Tryz.isAgg120 rfl rfl rfl) rfl) rfl rfl), (fun g63 => SO.at (SO.val (PO.idxArr (i := 0) rfl rfl Tryz.runUnderlying121 Tryz.sizeOf120 Tryz.isAgg120 rfl rfl rfl) rfl) rfl rfl)⟩, (fun g63 => SO.at (SO.val (PO.move rfl) rfl) rfl rfl), (fun g63 => SO.eff (EO.callX [0, 1] Tryz.call50 rfl rfl (t_Rd_part hx64) (fun _ => ⟨rfl, rfl, trivial⟩)) rfl fun _ _ ⟨_, e1, e2⟩ => ⟨g63, fun _ => by rw [e1]; rfl, e2.trans rfl, ⟨rfl, rfl, rfl, rfl, rfl, rfl, rfl, trivial⟩⟩), (fun g63 => SO.at (SO.val (PO.nilCheck rfl) rfl) rfl rfl), (fun g63 => SO.eff (EO.store 3 _ rfl rfl Tryz.sizeOf3 rfl rfl rfl rfl) rfl fun _ _ e2 => ⟨g63, fun h_ => absurd (show false = true from h_) Bool.false_ne_true, e2.trans rfl, (AgreeM_refl _ _ rfl)⟩), trivial⟩ (fun g63 => [rdAt p0 s0 x64.1, gl, F, pt b3 (.cells #[.int .i64 x2, .int .i64 j4_1, .int .i64 x64.2, .int .i64 0, .int .i64 0, .int .u64 j4_2, .string j4_3] 45 (0, 0))]) (fun _ => rfl) (fun g63 => [(47, .pointer (some ⟨b3, 2, none⟩)), (48, .pointer (some ⟨b3, 3, none⟩)), (49, .pointer (some ⟨b3, 4, none⟩)), (50, .agg #[.pointer (some ⟨b3, 2, none⟩), .pointer (some ⟨b3, 3, none⟩), .pointer (some ⟨b3, 4, none⟩)]), (51, .int .i64 0), (52, .pointer (some ⟨b3, 2, none⟩)), (53, .pointer (some ⟨p0, 0, none⟩)), (54, .int .i64 x64.2), (55, .pointer (some ⟨b3, 2, none⟩)), (0, .pointer (some ⟨p0, 0, none⟩)), (2, .int .i64 0), (3, .pointer (some ⟨b3, 0, none⟩)), (43, .int .i64 x61), (44, .int .i64 0), (6, .int .i64 0)]) (fun _ => rfl) (fun g63 => ?_)
        refine WP.region ?_
        refine WO.val (PO.addK (c := 1) rfl rfl (by decide)) rfl ?_
        refine WO.val (PO.move rfl) rfl ?_
        refine WO.nil ?_
        refine WPR.succ ?_
        refine WP.seq ?_
        refine WP.region ?_
        refine WO.val (PO.lss rfl rfl) rfl ?_
        refine WO.nil ?_
        refine WP.seq ?_
        refine WP.cond rfl (fun h65 => ?_) (fun h65 => ?_)
        · replace hs := cond_t h65 hs
          refine WP.skip ?_
          refine WP.seq ?_
          refine WP.block ?_
          refine WP.seq ?_
          refine WP.region ?_
          refine WO.val (PO.move rfl) rfl ?_
          refine WO.val (PO.assign rfl) rfl ?_
          refine WO.nil ?_
          rcases exc_elim hs with ⟨q_, hx67, rfl⟩ | ⟨x67, hx67, hs⟩
          · refine WP.never (WP.draw (γ := Unit) Tryz.mixedRdr [some 47, some 48, some 49, some 50, some 51, some 52, some 53, some 54, some 55, none] rfl [(6, .int .i64 1), (44, .int .i64 1), (43, .int .i64 x61), (3, .pointer (some ⟨b3, 0, none⟩)), (2, .int .i64 0), (0, .pointer (some ⟨p0, 0, none⟩))] ⟨rfl, rfl, rfl, rfl, rfl, rfl, trivial⟩ (fun _ => [.pointer (some ⟨b3, 2, none⟩), .pointer (some ⟨b3, 3, none⟩), .pointer (some ⟨b3, 4, none⟩), .agg #[.pointer (some ⟨b3, 2, none⟩), .pointer (some ⟨b3, 3, none⟩), .pointer (some ⟨b3, 4, none⟩)], .int .i64 1, .pointer (some ⟨b3, 3, none⟩), .pointer (some ⟨p0, 0, none⟩), undef, undef, undef]) [⟨[], 0, 1, false⟩, ⟨[], 0, 1, false⟩, ⟨[], 0, 1, false⟩, ⟨[0, 1, 2], 0, 1, false⟩, ⟨[], 0, 1, false⟩, ⟨[3, 4], 0, 1, false⟩, ⟨[], 0, 0, false⟩, ⟨[6], 0, 0, true⟩, ⟨[5, 5], 1, 0, false⟩, ⟨[8, 7, 7, 7], 1, 0, true⟩] [7, 9] (fun _ => [[rdAt p0 s0 x64.1, gl, F, pt b3 (.cells #[.int .i64 x2, .int .i64 j4_1, .int .i64 x64.2, .int .i64 0, .int .i64 0, .int .u64 j4_2, .string j4_3] 45 (0, 0))], [nev], [nev]]) rfl rfl rfl ⟨⟨(fun _ => SO.at (SO.val (PO.fieldAddr rfl Tryz.runUnderlying45 rfl Tryz.sizeOf3 rfl) rfl) rfl rfl), (fun _ => SO.no rfl)⟩, ⟨(fun _ => SO.at (SO.val (PO.fieldAddr rfl Tryz.runUnderlying45 rfl Tryz.sizeOf3 rfl) rfl) rfl rfl), (fun _ => SO.no rfl)⟩, ⟨(fun _ => SO.at (SO.val (PO.fieldAddr rfl Tryz.runUnderlying45 rfl Tryz.sizeOf3 rfl) rfl) rfl rfl), (fun _ => SO.no rfl)⟩, ⟨(fun _ => SO.at (SO.val (PO.build (v := .agg #[.pointer (some ⟨b3, 2, none⟩), .pointer (some ⟨b3, 3, none⟩), .pointer (some ⟨b3, 4, none⟩)]) rfl (fun w => by simp [Instr.build, Instr.fill, Value.cells, addr_add', Tryz.zeroValue121, Tryz.runUnderlying121, Tryz.sizeOf120])) rfl) rfl rfl), (fun _ => SO.no rfl)⟩, ⟨(fun _ => SO.at (SO.val (PO.move rfl) rfl) rfl rfl), (fun _ => SO.no rfl)⟩, ⟨(fun _ => SO.at (SO.val (PO.idxArr (i := 1) rfl rfl Tryz.runUnderlying121 Tryz.sizeOf120 Tryz.isAgg120 rfl rfl rfl) rfl) rfl rfl), (fun _ => SO.no rfl)⟩, (fun _ => SO.at (SO.val (PO.move rfl) rfl) rfl rfl), (fun _ => SO.eff (EO.callE [0, 1] Tryz.call50 rfl rfl (t_Rd_part hx67) ⟨q_, _, rfl, rfl, fun _ s_ => Sat.out (B := [gl]) [0, 3] rfl s_⟩) rfl fun _ _ h_ => h_.elim), (fun _ => SO.no rfl), (fun _ => SO.no rfl), trivial⟩ (fun _ => [nev]) (fun _ => rfl) (fun _ => [(47, .pointer (some ⟨b3, 2, none⟩)), (48, .pointer (some ⟨b3, 3, none⟩)), (49, .pointer (some ⟨b3, 4, none⟩)), (50, .agg #[.pointer (some ⟨b3, 2, none⟩), .pointer (some ⟨b3, 3, none⟩), .pointer (some ⟨b3, 4, none⟩)]), (51, .int .i64 1), (52, .pointer (some ⟨b3, 3, none⟩)), (53, .pointer (some ⟨p0, 0, none⟩)), (54, undef), (55, undef), (6, .int .i64 1), (44, .int .i64 1), (43, .int .i64 x61), (3, .pointer (some ⟨b3, 0, none⟩)), (2, .int .i64 0), (0, .pointer (some ⟨p0, 0, none⟩))]) (fun _ => rfl) (fun _ => rfl))
          refine WP.draw (γ := Unit) Tryz.mixedRdr [some 47, some 48, some 49, some 50, some 51, some 52, some 53, some 54, some 55, none] rfl [(6, .int .i64 1), (44, .int .i64 1), (43, .int .i64 x61), (3, .pointer (some ⟨b3, 0, none⟩)), (2, .int .i64 0), (0, .pointer (some ⟨p0, 0, none⟩))] ⟨rfl, rfl, rfl, rfl, rfl, rfl, trivial⟩ (fun g66 => [.pointer (some ⟨b3, 2, none⟩), .pointer (some ⟨b3, 3, none⟩), .pointer (some ⟨b3, 4, none⟩), .agg #[.pointer (some ⟨b3, 2, none⟩), .pointer (some ⟨b3, 3, none⟩), .pointer (some ⟨b3, 4, none⟩)], .int .i64 1, .pointer (some ⟨b3, 3, none⟩), .pointer (some ⟨p0, 0, none⟩), .int .i64 x67.2, .pointer (some ⟨b3, 3, none⟩), undef]) [⟨[], 0, 1, false⟩, ⟨[], 0, 1, false⟩, ⟨[], 0, 1, false⟩, ⟨[0, 1, 2], 0, 1, false⟩, ⟨[], 0, 1, false⟩, ⟨[3, 4], 0, 1, false⟩, ⟨[], 0, 0, false⟩, ⟨[6], 0, 0, true⟩, ⟨[5, 5], 1, 0, false⟩, ⟨[8, 7, 7, 7], 1, 0, true⟩] [7, 9] (fun g66 => [[rdAt p0 s0 x64.1, gl, F, pt b3 (.cells #[.int .i64 x2, .int .i64 j4_1, .int .i64 x64.2, .int .i64 0, .int .i64 0, .int .u64 j4_2, .string j4_3] 45 (0, 0))], [rdAt p0 s0 x67.1, gl, F, pt b3 (.cells #[.int .i64 x2, .int .i64 j4_1, .int .i64 x64.2, .int .i64 0, .int .i64 0, .int .u64 j4_2, .string j4_3] 45 (0, 0))], [rdAt p0 s0 x67.1, gl, F, pt b3 (.cells #[.int .i64 x2, .int .i64 j4_1, .int .i64 x64.2, .int .i64 x67.2, .int .i64 0, .int .u64 j4_2, .string j4_3] 45 (0, 0))]]) rfl rfl rfl ⟨⟨(fun g66 => SO.at (SO.val (PO.fieldAddr rfl Tryz.runUnderlying45 rfl Tryz.sizeOf3 rfl) rfl) rfl rfl), (fun g66 => SO.at (SO.val (PO.fieldAddr rfl Tryz.runUnderlying45 rfl Tryz.sizeOf3 rfl) rfl) rfl rfl)⟩, ⟨(fun g66 => SO.at (SO.val (PO.fieldAddr rfl Tryz.runUnderlying45 rfl Tryz.sizeOf3 rfl) rfl) rfl rfl), (fun g66 => SO.at (SO.val (PO.fieldAddr rfl Tryz.runUnderlying45 rfl Tryz.sizeOf3 rfl) rfl) rfl rfl)⟩, ⟨(fun g66 => SO.at (SO.val (PO.fieldAddr rfl Tryz.runUnderlying45 rfl Tryz.sizeOf3 rfl) rfl) rfl rfl), (fun g66 => SO.at (SO.val (PO.fieldAddr rfl Tryz.runUnderlying45 rfl Tryz.sizeOf3 rfl) rfl) rfl rfl)⟩, ⟨(fun g66 => SO.at (SO.val (PO.build (v := .agg #[.pointer (some ⟨b3, 2, none⟩), .pointer (some ⟨b3, 3, none⟩), .pointer (some ⟨b3, 4, none⟩)]) rfl (fun w => by simp [Instr.build, Instr.fill, Value.cells, addr_add', Tryz.zeroValue121, Tryz.runUnderlying121, Tryz.sizeOf120])) rfl) rfl rfl), (fun g66 => SO.at (SO.val (PO.build (v := .agg #[.pointer (some ⟨b3, 2, none⟩), .pointer (some ⟨b3, 3, none⟩), .pointer (some ⟨b3, 4, none⟩)]) rfl (fun w => by simp [Instr.build, Instr.fill, Value.cells, addr_add', Tryz.zeroValue121, Tryz.runUnderlying121, Tryz.sizeOf120])) rfl) rfl rfl)⟩, ⟨(fun g66 => SO.at (SO.val (PO.move rfl) rfl) rfl rfl), (fun g66 => SO.at (SO.val (PO.move rfl) rfl) rfl rfl)⟩, ⟨(fun g66 => SO.at (SO.val (PO.idxArr (i := 1) rfl rfl Tryz.runUnderlying121 Tryz.sizeOf120 Tryz.isAgg120 rfl rfl rfl) rfl) rfl rfl), (fun g66 => SO.at (SO.val (PO.idxArr (i := 1) rfl rfl Tryz.runUnderlying121 Tryz.sizeOf120 Tryz.isAgg120 rfl rfl rfl) rfl) rfl rfl)⟩, (fun g66 => SO.at (SO.val (PO.move rfl) rfl) rfl rfl), (fun g66 => SO.eff (EO.callX [0, 1] Tryz.call50 rfl rfl (t_Rd_part hx67) (fun _ => ⟨rfl, rfl, trivial⟩)) rfl fun _ _ ⟨_, e1, e2⟩ => ⟨g66, fun _ => by rw [e1]; rfl, e2.trans rfl, ⟨rfl, rfl, rfl, rfl, rfl, rfl, rfl, trivial⟩⟩), (fun g66 => SO.at (SO.val (PO.nilCheck rfl) rfl) rfl rfl), (fun g66 => SO.eff (EO.store 3 _ rfl rfl Tryz.sizeOf3 rfl rfl rfl rfl) rfl fun _ _ e2 => ⟨g66, fun h_ => absurd (show false = true from h_) Bool.false_ne_true, e2.trans rfl, (AgreeM_refl _ _ rfl)⟩), trivial⟩ (fun g66 => [rdAt p0 s0 x67.1, gl, F, pt b3 (.cells #[.int .i64 x2, .int .i64 j4_1, .int .i64 x64.2, .int .i64 x67.2, .int .i64 0, .int .u64 j4_2, .string j4_3] 45 (0, 0))]) (fun _ => rfl) (fun g66 => [(47, .pointer (some ⟨b3, 2, none⟩)), (48, .pointer (some ⟨b3, 3, none⟩)), (49, .pointer (some ⟨b3, 4, none⟩)), (50, .agg #[.pointer (some ⟨b3, 2, none⟩), .pointer (some ⟨b3, 3, none⟩), .pointer (some ⟨b3, 4, none⟩)]), (51, .int .i64 1), (52, .pointer (some ⟨b3, 3, none⟩)), (53, .pointer (some ⟨p0, 0, none⟩)), (54, .int .i64 x67.2), (55, .pointer (some ⟨b3, 3, none⟩)), (6, .int .i64 1), (44, .int .i64 1), (43, .int .i64 x61), (3, .pointer (some ⟨b3, 0, none⟩)), (2, .int .i64 0), (0, .pointer (some ⟨p0, 0, none⟩))]) (fun _ => rfl) (fun g66 => ?_)
          refine WP.region ?_
          refine WO.val (PO.addK (c := 2) rfl rfl (by decide)) rfl ?_
          refine WO.val (PO.move rfl) rfl ?_
          refine WO.nil ?_
          refine WPR.succ ?_
          refine WP.seq ?_
          refine WP.region ?_
          refine WO.val (PO.lss rfl rfl) rfl ?_
          refine WO.nil ?_
          refine WP.seq ?_
          refine WP.cond rfl (fun h68 => ?_) (fun h68 => ?_)
          · replace hs := cond_t h68 hs
            refine WP.skip ?_
            refine WP.seq ?_
            refine WP.block ?_
            refine WP.seq ?_
            refine WP.region ?_
            refine WO.val (PO.move rfl) rfl ?_
            refine WO.val (PO.assign rfl) rfl ?_
            refine WO.nil ?_
            rcases exc_elim hs with ⟨q_, hx70, rfl⟩ | ⟨x70, hx70, hs⟩
            · refine WP.never (WP.draw (γ := Unit) Tryz.mixedRdr [some 47, some 48, some 49, some 50, some 51, some 52, some 53, some 54, some 55, none] rfl [(0, .pointer (some ⟨p0, 0, none⟩)), (2, .int .i64 0), (3, .pointer (some ⟨b3, 0, none⟩)), (43, .int .i64 x61), (44, .int .i64 2), (6, .int .i64 2)] ⟨rfl, rfl, rfl, rfl, rfl, rfl, trivial⟩ (fun _ => [.pointer (some ⟨b3, 2, none⟩), .pointer (some ⟨b3, 3, none⟩), .pointer (some ⟨b3, 4, none⟩), .agg #[.pointer (some ⟨b3, 2, none⟩), .pointer (some ⟨b3, 3, none⟩), .pointer (some ⟨b3, 4, none⟩)], .int .i64 2, .pointer (some ⟨b3, 4, none⟩), .pointer (some ⟨p0, 0, none⟩), undef, undef, undef]) [⟨[], 0, 1, false⟩, ⟨[], 0, 1, false⟩, ⟨[], 0, 1, false⟩, ⟨[0, 1, 2], 0, 1, false⟩, ⟨[], 0, 1, false⟩, ⟨[3, 4], 0, 1, false⟩, ⟨[], 0, 0, false⟩, ⟨[6], 0, 0, true⟩, ⟨[5, 5], 1, 0, false⟩, ⟨[8, 7, 7, 7], 1, 0, true⟩] [7, 9] (fun _ => [[rdAt p0 s0 x67.1, gl, F, pt b3 (.cells #[.int .i64 x2, .int .i64 j4_1, .int .i64 x64.2, .int .i64 x67.2, .int .i64 0, .int .u64 j4_2, .string j4_3] 45 (0, 0))], [nev], [nev]]) rfl rfl rfl ⟨⟨(fun _ => SO.at (SO.val (PO.fieldAddr rfl Tryz.runUnderlying45 rfl Tryz.sizeOf3 rfl) rfl) rfl rfl), (fun _ => SO.no rfl)⟩, ⟨(fun _ => SO.at (SO.val (PO.fieldAddr rfl Tryz.runUnderlying45 rfl Tryz.sizeOf3 rfl) rfl) rfl rfl), (fun _ => SO.no rfl)⟩, ⟨(fun _ => SO.at (SO.val (PO.fieldAddr rfl Tryz.runUnderlying45 rfl Tryz.sizeOf3 rfl) rfl) rfl rfl), (fun _ => SO.no rfl)⟩, ⟨(fun _ => SO.at (SO.val (PO.build (v := .agg #[.pointer (some ⟨b3, 2, none⟩), .pointer (some ⟨b3, 3, none⟩), .pointer (some ⟨b3, 4, none⟩)]) rfl (fun w => by simp [Instr.build, Instr.fill, Value.cells, addr_add', Tryz.zeroValue121, Tryz.runUnderlying121, Tryz.sizeOf120])) rfl) rfl rfl), (fun _ => SO.no rfl)⟩, ⟨(fun _ => SO.at (SO.val (PO.move rfl) rfl) rfl rfl), (fun _ => SO.no rfl)⟩, ⟨(fun _ => SO.at (SO.val (PO.idxArr (i := 2) rfl rfl Tryz.runUnderlying121 Tryz.sizeOf120 Tryz.isAgg120 rfl rfl rfl) rfl) rfl rfl), (fun _ => SO.no rfl)⟩, (fun _ => SO.at (SO.val (PO.move rfl) rfl) rfl rfl), (fun _ => SO.eff (EO.callE [0, 1] Tryz.call50 rfl rfl (t_Rd_part hx70) ⟨q_, _, rfl, rfl, fun _ s_ => Sat.out (B := [gl]) [0, 3] rfl s_⟩) rfl fun _ _ h_ => h_.elim), (fun _ => SO.no rfl), (fun _ => SO.no rfl), trivial⟩ (fun _ => [nev]) (fun _ => rfl) (fun _ => [(47, .pointer (some ⟨b3, 2, none⟩)), (48, .pointer (some ⟨b3, 3, none⟩)), (49, .pointer (some ⟨b3, 4, none⟩)), (50, .agg #[.pointer (some ⟨b3, 2, none⟩), .pointer (some ⟨b3, 3, none⟩), .pointer (some ⟨b3, 4, none⟩)]), (51, .int .i64 2), (52, .pointer (some ⟨b3, 4, none⟩)), (53, .pointer (some ⟨p0, 0, none⟩)), (54, undef), (55, undef), (0, .pointer (some ⟨p0, 0, none⟩)), (2, .int .i64 0), (3, .pointer (some ⟨b3, 0, none⟩)), (43, .int .i64 x61), (44, .int .i64 2), (6, .int .i64 2)]) (fun _ => rfl) (fun _ => rfl))
            refine WP.draw (γ := Unit) Tryz.mixedRdr [some 47, some 48, some 49, some 50, some 51, some 52, some 53, some 54, some 55, none] rfl [(0, .pointer (some ⟨p0, 0, none⟩)), (2, .int .i64 0), (3, .pointer (some ⟨b3, 0, none⟩)), (43, .int .i64 x61), (44, .int .i64 2), (6, .int .i64 2)] ⟨rfl, rfl, rfl, rfl, rfl, rfl, trivial⟩ (fun g69 => [.pointer (some ⟨b3, 2, none⟩), .pointer (some ⟨b3, 3, none⟩), .pointer (some ⟨b3, 4, none⟩), .agg #[.pointer (some ⟨b3, 2, none⟩), .pointer (some ⟨b3, 3, none⟩), .pointer (some ⟨b3, 4, none⟩)], .int .i64 2, .pointer (some ⟨b3, 4, none⟩), .pointer (some ⟨p0, 0, none⟩), .int .i64 x70.2, .pointer (some ⟨b3, 4, none⟩), undef]) [⟨[], 0, 1, false⟩, ⟨[], 0, 1, false⟩, ⟨[], 0, 1, false⟩, ⟨[0, 1, 2], 0, 1, false⟩, ⟨[], 0, 1, false⟩, ⟨[3, 4], 0, 1, false⟩, ⟨[], 0, 0, false⟩, ⟨[6], 0, 0, true⟩, ⟨[5, 5], 1, 0, false⟩, ⟨[8, 7, 7, 7], 1, 0, true⟩] [7, 9] (fun g69 => [[rdAt p0 s0 x67.1, gl, F, pt b3 (.cells #[.int .i64 x2, .int .i64 j4_1, .int .i64 x64.2, .int .i64 x67.2, .int .i64 0, .int .u64 j4_2, .string j4_3] 45 (0, 0))], [rdAt p0 s0 x70.1, gl, F, pt b3 (.cells #[.int .i64 x2, .int .i64 j4_1, .int .i64 x64.2, .int .i64 x67.2, .int .i64 0, .int .u64 j4_2, .string j4_3] 45 (0, 0))], [rdAt p0 s0 x70.1, gl, F, pt b3 (.cells #[.int .i64 x2, .int .i64 j4_1, .int .i64 x64.2, .int .i64 x67.2, .int .i64 x70.2, .int .u64 j4_2, .string j4_3] 45 (0, 0))]]) rfl rfl rfl ⟨⟨(fun g69 => SO.at (SO.val (PO.fieldAddr rfl Tryz.runUnderlying45 rfl Tryz.sizeOf3 rfl) rfl) rfl rfl), (fun g69 => SO.at (SO.val (PO.fieldAddr rfl Tryz.runUnderlying45 rfl Tryz.sizeOf3 rfl) rfl) rfl rfl)⟩, ⟨(fun g69 => SO.at (SO.val (PO.fieldAddr rfl Tryz.runUnderlying45 rfl Tryz.sizeOf3 rfl) rfl) rfl rfl), (fun g69 => SO.at (SO.val (PO.fieldAddr rfl Tryz.runUnderlying45 rfl Tryz.sizeOf3 rfl) rfl) rfl rfl)⟩, ⟨(fun g69 => SO.at (SO.val (PO.fieldAddr rfl Tryz.runUnderlying45 rfl Tryz.sizeOf3 rfl) rfl) rfl rfl), (fun g69 => SO.at (SO.val (PO.fieldAddr rfl Tryz.runUnderlying45 rfl Tryz.sizeOf3 rfl) rfl) rfl rfl)⟩, ⟨(fun g69 => SO.at (SO.val (PO.build (v := .agg #[.pointer (some ⟨b3, 2, none⟩), .pointer (some ⟨b3, 3, none⟩), .pointer (some ⟨b3, 4, none⟩)]) rfl (fun w => by simp [Instr.build, Instr.fill, Value.cells, addr_add', Tryz.zeroValue121, Tryz.runUnderlying121, Tryz.sizeOf120])) rfl) rfl rfl), (fun g69 => SO.at (SO.val (PO.build (v := .agg #[.pointer (some ⟨b3, 2, none⟩), .pointer (some ⟨b3, 3, none⟩), .pointer (some ⟨b3, 4, none⟩)]) rfl (fun w => by simp [Instr.build, Instr.fill, Value.cells, addr_add', Tryz.zeroValue121, Tryz.runUnderlying121, Tryz.sizeOf120])) rfl) rfl rfl)⟩, ⟨(fun g69 => SO.at (SO.val (PO.move rfl) rfl) rfl rfl), (fun g69 => SO.at (SO.val (PO.move rfl) rfl) rfl rfl)⟩, ⟨(fun g69 => SO.at (SO.val (PO.idxArr (i := 2) rfl rfl Tryz.runUnderlying121 Tryz.sizeOf120 Tryz.isAgg120 rfl rfl rfl) rfl) rfl rfl), (fun g69 => SO.at (SO.val (PO.idxArr (i := 2) rfl rfl Tryz.runUnderlying121 Tryz.sizeOf120 Tryz.isAgg120 rfl rfl rfl) rfl) rfl rfl)⟩, (fun g69 => SO.at (SO.val (PO.move rfl) rfl) rfl rfl), (fun g69 => SO.eff (EO.callX [0, 1] Tryz.call50 rfl rfl (t_Rd_part hx70) (fun _ => ⟨rfl, rfl, trivial⟩)) rfl fun _ _ ⟨_, e1, e2⟩ => ⟨g69, fun _ => by rw [e1]; rfl, e2.trans rfl, ⟨rfl, rfl, rfl, rfl, rfl, rfl, rfl, trivial⟩⟩), (fun g69 => SO.at (SO.val (PO.nilCheck rfl) rfl) rfl rfl), (fun g69 => SO.eff (EO.store 3 _ rfl rfl Tryz.sizeOf3 rfl rfl rfl rfl) rfl fun _ _ e2 => ⟨g69, fun h_ => absurd (show false = true from h_) Bool.false_ne_true, e2.trans rfl, (AgreeM_refl _ _ rfl)⟩), trivial⟩ (fun g69 => [rdAt p0 s0 x70.1, gl, F, pt b3 (.cells #[.int .i64 x2, .int .i64 j4_1, .int .i64 x64.2, .int .i64 x67.2, .int .i64 x70.2, .int .u64 j4_2, .string j4_3] 45 (0, 0))]) (fun _ => rfl) (fun g69 => [(47, .pointer (some ⟨b3, 2, none⟩)), (48, .pointer (some ⟨b3, 3, none⟩)), (49, .pointer (some ⟨b3, 4, none⟩)), (50, .agg #[.pointer (some ⟨b3, 2, none⟩), .pointer (some ⟨b3, 3, none⟩), .pointer (some ⟨b3, 4, none⟩)]), (51, .int .i64 2), (52, .pointer (some ⟨b3, 4, none⟩)), (53, .pointer (some ⟨p0, 0, none⟩)), (54, .int .i64 x70.2), (55, .pointer (some ⟨b3, 4, none⟩)), (0, .pointer (some ⟨p0, 0, none⟩)), (2, .int .i64 0), (3, .pointer (some ⟨b3, 0, none⟩)), (43, .int .i64 x61), (44, .int .i64 2), (6, .int .i64 2)]) (fun _ => rfl) (fun g69 => ?_)
            refine WP.region ?_
            refine WO.val (PO.addK (c := 3) rfl rfl (by decide)) rfl ?_
            refine WO.val (PO.move rfl) rfl ?_
            refine WO.nil ?_
            refine WPR.succ ?_
            refine WP.seq ?_
            refine WP.region ?_
            refine WO.val (PO.lss rfl rfl) rfl ?_
            refine WO.nil ?_
            refine WP.seq ?_
            refine WP.cond rfl (fun h71 => ?_) (fun h71 => ?_)
            · replace hs := cond_t h71 hs
              cases hs
            · replace hs := cond_f h71 hs
              refine WP.exit (inX.hit ?_)
              exact ⟨_, ⟨x70.1, x70.2, x67.2, x64.2, ⟨rfl, rfl, trivial⟩, rfl, hs⟩, fun _ s => s⟩
          · replace hs := cond_f h68 hs
            refine WP.exit (inX.hit ?_)
            exact ⟨_, ⟨x67.1, 0, x67.2, x64.2, ⟨rfl, rfl, trivial⟩, rfl, hs⟩, fun _ s => s⟩
        · replace hs := cond_f h65 hs
          refine WP.exit (inX.hit ?_)
          exact ⟨_, ⟨x64.1, 0, 0, x64.2, ⟨rfl, rfl, trivial⟩, rfl, hs⟩, fun _ s => s⟩
      · replace hs := cond_f h62 hs
        refine WP.exit (inX.hit ?_)
        exact ⟨_, ⟨j4_0, 0, 0, 0, ⟨rfl, rfl, trivial⟩, rfl, hs⟩, fun _ s => s⟩
    · rintro f_ L_ ⟨j5_0, j5_1, j5_2, j5_3, hf_, rfl, hs⟩
      refine WP.keep [(3, .pointer (some ⟨b3, 0, none⟩)), (0, .pointer (some ⟨p0, 0, none⟩))] hf_ ?_
      unfold s_Rd_node_j1 at hs
      refine WP.seq ?_
      refine WP.seq ?_
      refine WP.region ?_
      refine WO.val (PO.fieldAddr rfl Tryz.runUnderlying45 rfl Tryz.sizeOf3 rfl) rfl ?_
      refine WO.val (PO.load 3 rfl Tryz.isAgg3 rfl rfl) rfl ?_
      refine WO.val (PO.assign rfl) rfl ?_
      refine WO.nil ?_
      refine WP.block ?_
      refine WP.seq ?_
      refine WP.region ?_
      refine WO.val (PO.move rfl) rfl ?_
      refine WO.val (PO.eql rfl rfl) rfl ?_
      refine WO.val (PO.assign rfl) rfl ?_
      refine WO.nil ?_
      refine WP.cond rfl (fun h6 => ?_) (fun h6 => ?_)
      · replace hs := cond_t h6 hs
        refine WP.seq ?_
        refine WP.region ?_
        refine WO.val (PO.move rfl) rfl ?_
        rcases exc_elim hs with ⟨q_, hx7, rfl⟩ | ⟨x7, hx7, hs⟩
        · refine WO.step (SO.of rfl (EO.callE [0, 1] Tryz.call51 rfl rfl (t_Rd_number hx7) ⟨q_, _, rfl, rfl, fun _ s_ => Sat.out (B := [gl]) [0, 3] rfl s_⟩)) rfl ?_
          rintro _ _ h_
          exact h_.elim
        refine WO.step (SO.of rfl (EO.callX [0, 1] Tryz.call51 rfl rfl (t_Rd_number hx7) (fun _ => ⟨rfl, rfl, trivial⟩))) rfl ?_
        rintro _ _ ⟨_, rfl, rfl⟩
        refine WO.toL [rdAt p0 s0 x7.1, gl, F, pt b3 (.cells #[.int .i64 x2, .int .i64 j4_1, .int .i64 j5_3, .int .i64 j5_2, .int .i64 j5_1, .int .u64 j4_2, .string j4_3] 45 (0, 0))] rfl ?_
        refine WO.val (PO.conv rfl Tryz.runUnderlying3 Tryz.runUnderlying33) rfl ?_
        refine WO.val (PO.fieldAddr rfl Tryz.runUnderlying45 rfl Tryz.sizeOf33 rfl) rfl ?_
        refine WO.step (SO.of rfl (EO.store 3 _ rfl rfl Tryz.sizeOf33 rfl rfl rfl rfl)) rfl ?_
        rintro _ _ rfl
        refine WO.toL [rdAt p0 s0 x7.1, gl, F, pt b3 (.cells #[.int .i64 x2, .int .i64 j4_1, .int .i64 j5_3, .int .i64 j5_2, .int .i64 j5_1, .int .u64 (IntKind.u64.wrap x7.2), .string j4_3] 45 (0, 0))] rfl ?_
        refine WO.nil ?_
        refine WP.region ?_
        refine WO.val (PO.move rfl) rfl ?_
        rcases exc_elim hs with ⟨q_, hx8, rfl⟩ | ⟨x8, hx8, hs⟩
        · refine WO.step (SO.of rfl (EO.callE [0, 1] Tryz.call51 rfl rfl (t_Rd_number hx8) ⟨q_, _, rfl, rfl, fun _ s_ => Sat.out (B := [gl]) [0, 3] rfl s_⟩)) rfl ?_
          rintro _ _ h_
          exact h_.elim
        refine WO.step (SO.of rfl (EO.callX [0, 1] Tryz.call51 rfl rfl (t_Rd_number hx8) (fun _ => ⟨rfl, rfl, trivial⟩))) rfl ?_
        rintro _ _ ⟨_, rfl, rfl⟩
        refine WO.toL [rdAt p0 s0 x8.1, gl, F, pt b3 (.cells #[.int .i64 x2, .int .i64 j4_1, .int .i64 j5_3, .int .i64 j5_2, .int .i64 j5_1, .int .u64 (IntKind.u64.wrap x7.2), .string j4_3] 45 (0, 0))] rfl ?_
        refine WO.val (PO.fieldAddr rfl Tryz.runUnderlying45 rfl Tryz.sizeOf3 rfl) rfl ?_
        refine WO.step (SO.of rfl (EO.store 3 _ rfl rfl Tryz.sizeOf3 rfl rfl rfl rfl)) rfl ?_
        rintro _ _ rfl
        refine WO.toL [rdAt p0 s0 x8.1, gl, F, pt b3 (.cells #[.int .i64 x2, .int .i64 x8.2, .int .i64 j5_3, .int .i64 j5_2, .int .i64 j5_1, .int .u64 (IntKind.u64.wrap x7.2), .string j4_3] 45 (0, 0))] rfl ?_
        refine WO.nil ?_
        refine WP.seq ?_
        refine WP.seq ?_
        refine WP.openRd (fun v0 v1 => ?_)
        refine WP.region ?_
        refine WO.val (PO.move rfl) rfl ?_
        refine WO.val (PO.nilCheck rfl) rfl ?_
        refine WO.val (PO.fieldAddr rfl Tryz.runUnderlying108 rfl Tryz.sizeOf41 rfl) rfl ?_
        refine WO.val (PO.load 0 rfl Tryz.isAgg41 rfl rfl) rfl ?_
        refine WO.val (PO.lenW 1 rfl Tryz.runUnderlying41 rfl) rfl ?_
        refine WO.val (PO.gtr rfl rfl) rfl ?_
        refine WO.nil ?_
        refine WP.cond rfl (fun h9 => ?_) (fun h9 => ?_)
        · replace hs := cond_t h9 hs
          refine WP.region ?_
          refine WO.val (PO.build (v := .agg #[.int .i64 3]) rfl (fun w => by simp [Instr.build, Instr.fill, Value.cells, addr_add', Tryz.zeroValue105, Tryz.runUnderlying105, Tryz.sizeOf28])) rfl ?_
          refine WO.val (PO.makeIface rfl Tryz.runUnderlying105 rfl) rfl ?_
          obtain rfl := Option.some.inj hs
          refine WO.step (SO.of rfl (EO.panic rfl ⟨3, _, rfl, rfl, fun _ s_ => Sat.out (B := [gl]) [4, 5] rfl s_⟩)) rfl ?_
          rintro _ _ h_
          exact h_.elim
        · replace hs := cond_f h9 hs
          refine WP.skip ?_
          refine WP.seq ?_
          obtain ⟨x11, hx11, hs⟩ := bind_elim hs
          have tx12 := t_St_Make (p0 := s0) hx11
          refine WP.draw (γ := Unit) Tryz.mixedRdr [some 138, some 139, some 140, some 141, some 142, some 143, some 137, some 144, some 145, some 8, some 9] rfl [(3, .pointer (some ⟨b3, 0, none⟩)), (0, .pointer (some ⟨p0, 0, none⟩))] ⟨rfl, rfl, trivial⟩ (fun g10 => [.pointer (some ⟨p0, 0, none⟩), .pointer (some ⟨p0, 0, none⟩), .pointer (some ⟨p0, 0, none⟩), .pointer (some ⟨s0, 0, none⟩), .agg #[.int .i64 x2, .int .i64 x8.2, .int .i64 j5_3, .int .i64 j5_2, .int .i64 j5_1, .int .u64 (IntKind.u64.wrap x7.2), .string j4_3], .tuple #[.int .i64 x11.2.1, .int .i64 x11.2.2], .tuple #[.int .i64 x11.2.1, .int .i64 x11.2.2], .int .i64 x11.2.1, .int .i64 x11.2.2, .int .i64 x11.2.1, .int .i64 x11.2.2]) [⟨[], 0, 0, false⟩, ⟨[0], 0, 0, false⟩, ⟨[1], 0, 0, false⟩, ⟨[2], 0, 0, false⟩, ⟨[], 0, 0, false⟩, ⟨[3, 4], 0, 0, true⟩, ⟨[5], 1, 0, false⟩, ⟨[6], 1, 0, false⟩, ⟨[6], 1, 0, false⟩, ⟨[7, 7], 1, 0, false⟩, ⟨[8, 8], 1, 0, false⟩] [5] (fun g10 => [[pt p0 (.cells #[.pointer (some ⟨s0, 0, none⟩), v0, v1] 108 (0, 0)), slw 9 1 v0 x8.1.w.length (fl sc x8.1.w), slc 3 1 v1 x8.1.terms.length (fl ic x8.1.terms), stAt s0 x8.1.st, gl, F, pt b3 (.cells #[.int .i64 x2, .int .i64 x8.2, .int .i64 j5_3, .int .i64 j5_2, .int .i64 j5_1, .int .u64 (IntKind.u64.wrap x7.2), .string j4_3] 45 (0, 0))], [pt p0 (.cells #[.pointer (some ⟨s0, 0, none⟩), v0, v1] 108 (0, 0)), slw 9 1 v0 x8.1.w.length (fl sc x8.1.w), slc 3 1 v1 x8.1.terms.length (fl ic x8.1.terms), stAt s0 x11.1, gl, F, pt b3 (.cells #[.int .i64 x2, .int .i64 x8.2, .int .i64 j5_3, .int .i64 j5_2, .int .i64 j5_1, .int .u64 (IntKind.u64.wrap x7.2), .string j4_3] 45 (0, 0))]]) rfl rfl rfl ⟨(fun g10 => SO.at (SO.val (PO.move rfl) rfl) rfl rfl), (fun g10 => SO.at (SO.val (PO.nilCheck rfl) rfl) rfl rfl), (fun g10 => SO.at (SO.val (PO.fieldAddr rfl Tryz.runUnderlying108 rfl Tryz.sizeOf23 rfl) rfl) rfl rfl), (fun g10 => SO.at (SO.val (PO.load 0 rfl Tryz.isAgg23 rfl rfl) rfl) rfl rfl), (fun g10 => SO.at (SO.val (PO.loadAgg 6 rfl Tryz.isAgg45 Tryz.sizeOf45 rfl rfl rfl) rfl) rfl rfl), (fun g10 => SO.eff (EO.call1 3 _ Tryz.call31 rfl rfl tx12 rfl) rfl fun _ _ ⟨e1, e2⟩ => ⟨g10, fun _ => by rw [e1]; rfl, e2.trans rfl, (AgreeM_refl _ _ rfl)⟩), (fun g10 => SO.at (SO.val (PO.move rfl) rfl) rfl rfl), (fun g10 => SO.at (SO.val (PO.extract rfl rfl) rfl) rfl rfl), (fun g10 => SO.at (SO.val (PO.extract rfl rfl) rfl) rfl rfl), (fun g10 => SO.at (SO.val (PO.assign rfl) rfl) rfl rfl), (fun g10 => SO.at (SO.val (PO.assign rfl) rfl) rfl rfl), trivial⟩ (fun g10 => [pt p0 (.cells #[.pointer (some ⟨s0, 0, none⟩), v0, v1] 108 (0, 0)), slw 9 1 v0 x8.1.w.length (fl sc x8.1.w), slc 3 1 v1 x8.1.terms.length (fl ic x8.1.terms), stAt s0 x11.1, gl, F, pt b3 (.cells #[.int .i64 x2, .int .i64 x8.2, .int .i64 j5_3, .int .i64 j5_2, .int .i64 j5_1, .int .u64 (IntKind.u64.wrap x7.2), .string j4_3] 45 (0, 0))]) (fun _ => rfl) (fun g10 => [(138, .pointer (some ⟨p0, 0, none⟩)), (139, .pointer (some ⟨p0, 0, none⟩)), (140, .pointer (some ⟨p0, 0, none⟩)), (141, .pointer (some ⟨s0, 0, none⟩)), (142, .agg #[.int .i64 x2, .int .i64 x8.2, .int .i64 j5_3, .int .i64 j5_2, .int .i64 j5_1, .int .u64 (IntKind.u64.wrap x7.2), .string j4_3]), (143, .tuple #[.int .i64 x11.2.1, .int .i64 x11.2.2]), (137, .tuple #[.int .i64 x11.2.1, .int .i64 x11.2.2]), (144, .int .i64 x11.2.1), (145, .int .i64 x11.2.2), (8, .int .i64 x11.2.1), (9, .int .i64 x11.2.2), (3, .pointer (some ⟨b3, 0, none⟩)), (0, .pointer (some ⟨p0, 0, none⟩))]) (fun _ => rfl) (fun g10 => ?_)
          refine WP.seq ?_
          refine WP.seq ?_
          refine WP.region ?_
          refine WO.val (PO.move rfl) rfl ?_
          refine WO.val (PO.neq rfl rfl) rfl ?_
          refine WO.nil ?_
          refine WP.cond rfl (fun h13 => ?_) (fun h13 => ?_)
          · replace hs := cond_t h13 hs
            refine WP.region ?_
            refine WO.val (PO.move rfl) rfl ?_
            refine WO.val (PO.build (v := .agg #[.int .i64 x11.2.2]) rfl (fun w => by simp [Instr.build, Instr.fill, Value.cells, addr_add', Tryz.zeroValue105, Tryz.runUnderlying105, Tryz.sizeOf28])) rfl ?_
            refine WO.val (PO.makeIface rfl Tryz.runUnderlying105 rfl) rfl ?_
            obtain rfl := Option.some.inj hs
            refine WO.step (SO.of rfl (EO.panic rfl ⟨x11.2.2, _, rfl, rfl, fun _ s_ => Sat.out (B := [gl]) [4, 5] rfl s_⟩)) rfl ?_
            rintro _ _ h_
            exact h_.elim
          · replace hs := cond_f h13 hs
            refine WP.skip ?_
            refine WP.seq ?_
            refine WP.region ?_
            refine WO.val (PO.move rfl) rfl ?_
            refine WO.val (PO.assign rfl) rfl ?_
            refine WO.nil ?_
            refine WP.ret ?_
            obtain rfl := Option.some.inj hs
            exact ⟨_, (), _, _, rfl, Res.one (RV.tmp rfl), rfl, fun _ s => Sat.out [0, 1, 2] rfl ((fun _ s => rdAt_close (u := (⟨x8.1.w, x8.1.terms, x11.1⟩ : Rd)) s) _ s)⟩
      · replace hs := cond_f h6 hs
        refine WP.seq ?_
        refine WP.regionG (D := [some 70, some 71, some 72, some 73, some 74, some 75, some 69]) rfl ?_
        refine WO.val (PO.move rfl) rfl ?_
        refine WO.val (PO.eql rfl rfl) rfl ?_
        refine WO.val (PO.move rfl) rfl ?_
        refine WO.guardF rfl rfl (fun hg14 => (PO.move rfl).vo) rfl ?_
        refine WO.guardF rfl rfl (fun hg15 => (PO.eql (evg hg15 rfl) rfl).vo) rfl ?_
        refine WO.val (PO.pickO rfl rfl rfl) rfl ?_
        refine WO.val (PO.assign rfl) rfl ?_
        refine WO.nil ?_
        refine WP.cond rfl (fun h16 => ?_) (fun h16 => ?_)
        · replace hs := cond_t h16 hs
          refine WP.region ?_
          refine WO.val (PO.move rfl) rfl ?_
          rcases exc_elim hs with ⟨q_, hx17, rfl⟩ | ⟨x17, hx17, hs⟩
          · refine WO.step (SO.of rfl (EO.callE [0, 1] Tryz.call51 rfl rfl (t_Rd_number hx17) ⟨q_, _, rfl, rfl, fun _ s_ => Sat.out (B := [gl]) [0, 3] rfl s_⟩)) rfl ?_
            rintro _ _ h_
            exact h_.elim
          refine WO.step (SO.of rfl (EO.callX [0, 1] Tryz.call51 rfl rfl (t_Rd_number hx17) (fun _ => ⟨rfl, rfl, trivial⟩))) rfl ?_
          rintro _ _ ⟨_, rfl, rfl⟩
          refine WO.toL [rdAt p0 s0 x17.1, gl, F, pt b3 (.cells #[.int .i64 x2, .int .i64 j4_1, .int .i64 j5_3, .int .i64 j5_2, .int .i64 j5_1, .int .u64 j4_2, .string j4_3] 45 (0, 0))] rfl ?_
          refine WO.val (PO.fieldAddr rfl Tryz.runUnderlying45 rfl Tryz.sizeOf3 rfl) rfl ?_
          refine WO.step (SO.of rfl (EO.store 3 _ rfl rfl Tryz.sizeOf3 rfl rfl rfl rfl)) rfl ?_
          rintro _ _ rfl
          refine WO.toL [rdAt p0 s0 x17.1, gl, F, pt b3 (.cells #[.int .i64 x2, .int .i64 x17.2, .int .i64 j5_3, .int .i64 j5_2, .int .i64 j5_1, .int .u64 j4_2, .string j4_3] 45 (0, 0))] rfl ?_
          refine WO.nil ?_
          refine WP.seq ?_
          refine WP.seq ?_
          refine WP.openRd (fun v0 v1 => ?_)
          refine WP.region ?_
          refine WO.val (PO.move rfl) rfl ?_
          refine WO.val (PO.nilCheck rfl) rfl ?_
          refine WO.val (PO.fieldAddr rfl Tryz.runUnderlying108 rfl Tryz.sizeOf41 rfl) rfl ?_
          refine WO.val (PO.load 0 rfl Tryz.isAgg41 rfl rfl) rfl ?_
          refine WO.val (PO.lenW 1 rfl Tryz.runUnderlying41 rfl) rfl ?_
          refine WO.val (PO.gtr rfl rfl) rfl ?_
          refine WO.nil ?_
          refine WP.cond rfl (fun h18 => ?_) (fun h18 => ?_)
          · replace hs := cond_t h18 hs
            refine WP.region ?_
            refine WO.val (PO.build (v := .agg #[.int .i64 3]) rfl (fun w => by simp [Instr.build, Instr.fill, Value.cells, addr_add', Tryz.zeroValue105, Tryz.runUnderlying105, Tryz.sizeOf28])) rfl ?_
            refine WO.val (PO.makeIface rfl Tryz.runUnderlying105 rfl) rfl ?_
            obtain rfl := Option.some.inj hs
            refine WO.step (SO.of rfl (EO.panic rfl ⟨3, _, rfl, rfl, fun _ s_ => Sat.out (B := [gl]) [4, 5] rfl s_⟩)) rfl ?_
            rintro _ _ h_
            exact h_.elim
          · replace hs := cond_f h18 hs
            refine WP.skip ?_
            refine WP.seq ?_
            obtain ⟨x20, hx20, hs⟩ := bind_elim hs
            have tx21 := t_St_Make (p0 := s0) hx20
            refine WP.draw (γ := Unit) Tryz.mixedRdr [some 138, some 139, some 140, some 141, some 142, some 143, some 137, some 144, some 145, some 8, some 9] rfl [(3, .pointer (some ⟨b3, 0, none⟩)), (0, .pointer (some ⟨p0, 0, none⟩))] ⟨rfl, rfl, trivial⟩ (fun g19 => [.pointer (some ⟨p0, 0, none⟩), .pointer (some ⟨p0, 0, none⟩), .pointer (some ⟨p0, 0, none⟩), .pointer (some ⟨s0, 0, none⟩), .agg #[.int .i64 x2, .int .i64 x17.2, .int .i64 j5_3, .int .i64 j5_2, .int .i64 j5_1, .int .u64 j4_2, .string j4_3], .tuple #[.int .i64 x20.2.1, .int .i64 x20.2.2], .tuple #[.int .i64 x20.2.1, .int .i64 x20.2.2], .int .i64 x20.2.1, .int .i64 x20.2.2, .int .i64 x20.2.1, .int .i64 x20.2.2]) [⟨[], 0, 0, false⟩, ⟨[0], 0, 0, false⟩, ⟨[1], 0, 0, false⟩, ⟨[2], 0, 0, false⟩, ⟨[], 0, 0, false⟩, ⟨[3, 4], 0, 0, true⟩, ⟨[5], 1, 0, false⟩, ⟨[6], 1, 0, false⟩, ⟨[6], 1, 0, false⟩, ⟨[7, 7], 1, 0, false⟩, ⟨[8, 8], 1, 0, false⟩] [5] (fun g19 => [[pt p0 (.cells #[.pointer (some ⟨s0, 0, none⟩), v0, v1] 108 (0, 0)), slw 9 1 v0 x17.1.w.length (fl sc x17.1.w), slc 3 1 v1 x17.1.terms.length (fl ic x17.1.terms), stAt s0 x17.1.st, gl, F, pt b3 (.cells #[.int .i64 x2, .int .i64 x17.2, .int .i64 j5_3, .int .i64 j5_2, .int .i64 j5_1, .int .u64 j4_2, .string j4_3] 45 (0, 0))], [pt p0 (.cells #[.pointer (some ⟨s0, 0, none⟩), v0, v1] 108 (0, 0)), slw 9 1 v0 x17.1.w.length (fl sc x17.1.w), slc 3 1 v1 x17.1.terms.length (fl ic x17.1.terms), stAt s0 x20.1, gl, F, pt b3 (.cells #[.int .i64 x2, .int .i64 x17.2, .int .i64 j5_3, .int .i64 j5_2, .int .i64 j5_1, .int .u64 j4_2, .string j4_3] 45 (0, 0))]]) rfl rfl rfl ⟨(fun g19 => SO.at (SO.val (PO.move rfl) rfl) rfl rfl), (fun g19 => SO.at (SO.val (PO.nilCheck rfl) rfl) rfl rfl), (fun g19 => SO.at (SO.val (PO.fieldAddr rfl Tryz.runUnderlying108 rfl Tryz.sizeOf23 rfl) rfl) rfl rfl), (fun g19 => SO.at (SO.val (PO.load 0 rfl Tryz.isAgg23 rfl rfl) rfl) rfl rfl), (fun g19 => SO.at (SO.val (PO.loadAgg 6 rfl Tryz.isAgg45 Tryz.sizeOf45 rfl rfl rfl) rfl) rfl rfl), (fun g19 => SO.eff (EO.call1 3 _ Tryz.call31 rfl rfl tx21 rfl) rfl fun _ _ ⟨e1, e2⟩ => ⟨g19, fun _ => by rw [e1]; rfl, e2.trans rfl, (AgreeM_refl _ _ rfl)⟩), (fun g19 => SO.at (SO.val (PO.move rfl) rfl) rfl rfl), (fun g19 => SO.at (SO.val (PO.extract rfl rfl) rfl) rfl rfl), (fun g19 => SO.at (SO.val (PO.extract rfl rfl) rfl) rfl rfl), (fun g19 => SO.at (SO.val (PO.assign rfl) rfl) rfl rfl), (fun g19 => SO.at (SO.val (PO.assign rfl) rfl) rfl rfl), trivial⟩ (fun g19 => [pt p0 (.cells #[.pointer (some ⟨s0, 0, none⟩), v0, v1] 108 (0, 0)), slw 9 1 v0 x17.1.w.length (fl sc x17.1.w), slc 3 1 v1 x17.1.terms.length (fl ic x17.1.terms), stAt s0 x20.1, gl, F, pt b3 (.cells #[.int .i64 x2, .int .i64 x17.2, .int .i64 j5_3, .int .i64 j5_2, .int .i64 j5_1, .int .u64 j4_2, .string j4_3] 45 (0, 0))]) (fun _ => rfl) (fun g19 => [(138, .pointer (some ⟨p0, 0, none⟩)), (139, .pointer (some ⟨p0, 0, none⟩)), (140, .pointer (some ⟨p0, 0, none⟩)), (141, .pointer (some ⟨s0, 0, none⟩)), (142, .agg #[.int .i64 x2, .int .i64 x17.2, .int .i64 j5_3, .int .i64 j5_2, .int .i64 j5_1, .int .u64 j4_2, .string j4_3]), (143, .tuple #[.int .i64 x20.2.1, .int .i64 x20.2.2]), (137, .tuple #[.int .i64 x20.2.1, .int .i64 x20.2.2]), (144, .int .i64 x20.2.1), (145, .int .i64 x20.2.2), (8, .int .i64 x20.2.1), (9, .int .i64 x20.2.2), (3, .pointer (some ⟨b3, 0, none⟩)), (0, .pointer (some ⟨p0, 0, none⟩))]) (fun _ => rfl) (fun g19 => ?_)
            refine WP.seq ?_
            refine WP.seq ?_
            refine WP.region ?_
            refine WO.val (PO.move rfl) rfl ?_
            refine WO.val (PO.neq rfl rfl) rfl ?_
            refine WO.nil ?_
            refine WP.cond rfl (fun h22 => ?_) (fun h22 => ?_)
            · replace hs := cond_t h22 hs
              refine WP.region ?_
              refine WO.val (PO.move rfl) rfl ?_
              refine WO.val (PO.build (v := .agg #[.int .i64 x20.2.2]) rfl (fun w => by simp [Instr.build, Instr.fill, Value.cells, addr_add', Tryz.zeroValue105, Tryz.runUnderlying105, Tryz.sizeOf28])) rfl ?_
              refine WO.val (PO.makeIface rfl Tryz.runUnderlying105 rfl) rfl ?_
              obtain rfl := Option.some.inj hs
              refine WO.step (SO.of rfl (EO.panic rfl ⟨x20.2.2, _, rfl, rfl, fun _ s_ => Sat.out (B := [gl]) [4, 5] rfl s_⟩)) rfl ?_
              rintro _ _ h_
              exact h_.elim
            · replace hs := cond_f h22 hs
              refine WP.skip ?_
              refine WP.seq ?_
              refine WP.region ?_
              refine WO.val (PO.move rfl) rfl ?_
              refine WO.val (PO.assign rfl) rfl ?_
              refine WO.nil ?_
              refine WP.ret ?_
              obtain rfl := Option.some.inj hs
              exact ⟨_, (), _, _, rfl, Res.one (RV.tmp rfl), rfl, fun _ s => Sat.out [0, 1, 2] rfl ((fun _ s => rdAt_close (u := (⟨x17.1.w, x17.1.terms, x20.1⟩ : Rd)) s) _ s)⟩
        · replace hs := cond_f h16 hs
          refine WP.seq ?_
          refine WP.region ?_
          refine WO.val (PO.move rfl) rfl ?_
          refine WO.val (PO.eql rfl rfl) rfl ?_
          refine WO.val (PO.assign rfl) rfl ?_
          refine WO.nil ?_
          refine WP.cond rfl (fun h23 => ?_) (fun h23 => ?_)
          · replace hs := cond_t h23 hs
            refine WP.openRd (fun v0 v1 => ?_)
            obtain ⟨x25, hx25, hs⟩ := bind_elim hs
            refine WP.draw (γ := Unit) Tryz.mixedRdr [some 82, some 83, some 84, some 85, some 86, some 87, some 88, some 89, none] rfl [(3, .pointer (some ⟨b3, 0, none⟩)), (0, .pointer (some ⟨p0, 0, none⟩))] ⟨rfl, rfl, trivial⟩ (fun g24 => [.pointer (some ⟨p0, 0, none⟩), .pointer (some ⟨p0, 0, none⟩), .pointer (some ⟨p0, 0, none⟩), .pointer (some ⟨s0, 0, none⟩), .pointer (some ⟨b3, 3, none⟩), .int .i64 j5_2, .int .i64 x25, .pointer (some ⟨b3, 1, none⟩), undef]) [⟨[], 0, 0, false⟩, ⟨[0], 0, 0, false⟩, ⟨[1], 0, 0, false⟩, ⟨[2], 0, 0, false⟩, ⟨[], 0, 0, false⟩, ⟨[4], 0, 0, false⟩, ⟨[3, 5], 0, 0, false⟩, ⟨[], 0, 0, false⟩, ⟨[7, 6, 6, 6], 0, 0, true⟩] [8] (fun g24 => [[pt p0 (.cells #[.pointer (some ⟨s0, 0, none⟩), v0, v1] 108 (0, 0)), slw 9 1 v0 j5_0.w.length (fl sc j5_0.w), slc 3 1 v1 j5_0.terms.length (fl ic j5_0.terms), stAt s0 j5_0.st, gl, F, pt b3 (.cells #[.int .i64 x2, .int .i64 j4_1, .int .i64 j5_3, .int .i64 j5_2, .int .i64 j5_1, .int .u64 j4_2, .string j4_3] 45 (0, 0))], [pt p0 (.cells #[.pointer (some ⟨s0, 0, none⟩), v0, v1] 108 (0, 0)), slw 9 1 v0 j5_0.w.length (fl sc j5_0.w), slc 3 1 v1 j5_0.terms.length (fl ic j5_0.terms), stAt s0 j5_0.st, gl, F, pt b3 (.cells #[.int .i64 x2, .int .i64 x25, .int .i64 j5_3, .int .i64 j5_2, .int .i64 j5_1, .int .u64 j4_2, .string j4_3] 45 (0, 0))]]) rfl rfl rfl ⟨(fun g24 => SO.at (SO.val (PO.move rfl) rfl) rfl rfl), (fun g24 => SO.at (SO.val (PO.nilCheck rfl) rfl) rfl rfl), (fun g24 => SO.at (SO.val (PO.fieldAddr rfl Tryz.runUnderlying108 rfl Tryz.sizeOf23 rfl) rfl) rfl rfl), (fun g24 => SO.at (SO.val (PO.load 0 rfl Tryz.isAgg23 rfl rfl) rfl) rfl rfl), (fun g24 => SO.at (SO.val (PO.fieldAddr rfl Tryz.runUnderlying45 rfl Tryz.sizeOf3 rfl) rfl) rfl rfl), (fun g24 => SO.at (SO.val (PO.load 6 rfl Tryz.isAgg3 rfl rfl) rfl) rfl rfl), (fun g24 => SO.at (SO.vo (VO.call1 3 Tryz.call73 rfl rfl (t_St_w hx25)) rfl) rfl rfl), (fun g24 => SO.at (SO.val (PO.fieldAddr rfl Tryz.runUnderlying45 rfl Tryz.sizeOf3 rfl) rfl) rfl rfl), (fun g24 => SO.eff (EO.store 6 _ rfl rfl Tryz.sizeOf3 rfl rfl rfl rfl) rfl fun _ _ e2 => ⟨g24, fun h_ => absurd (show false = true from h_) Bool.false_ne_true, e2.trans rfl, (AgreeM_refl _ _ rfl)⟩), trivial⟩ (fun g24 => [pt p0 (.cells #[.pointer (some ⟨s0, 0, none⟩), v0, v1] 108 (0, 0)), slw 9 1 v0 j5_0.w.length (fl sc j5_0.w), slc 3 1 v1 j5_0.terms.length (fl ic j5_0.terms), stAt s0 j5_0.st, gl, F, pt b3 (.cells #[.int .i64 x2, .int .i64 x25, .int .i64 j5_3, .int .i64 j5_2, .int .i64 j5_1, .int .u64 j4_2, .string j4_3] 45 (0, 0))]) (fun _ => rfl) (fun g24 => [(82, .pointer (some ⟨p0, 0, none⟩)), (83, .pointer (some ⟨p0, 0, none⟩)), (84, .pointer (some ⟨p0, 0, none⟩)), (85, .pointer (some ⟨s0, 0, none⟩)), (86, .pointer (some ⟨b3, 3, none⟩)), (87, .int .i64 j5_2), (88, .int .i64 x25), (89, .pointer (some ⟨b3, 1, none⟩)), (3, .pointer (some ⟨b3, 0, none⟩)), (0, .pointer (some ⟨p0, 0, none⟩))]) (fun _ => rfl) (fun g24 => ?_)
            refine WP.seq ?_
            refine WP.seq ?_
            refine WP.region ?_
            refine WO.val (PO.move rfl) rfl ?_
            refine WO.val (PO.nilCheck rfl) rfl ?_
            refine WO.val (PO.fieldAddr rfl Tryz.runUnderlying108 rfl Tryz.sizeOf41 rfl) rfl ?_
            refine WO.val (PO.load 0 rfl Tryz.isAgg41 rfl rfl) rfl ?_
            refine WO.val (PO.lenW 1 rfl Tryz.runUnderlying41 rfl) rfl ?_
            refine WO.val (PO.gtr rfl rfl) rfl ?_
            refine WO.nil ?_
            refine WP.cond rfl (fun h26 => ?_) (fun h26 => ?_)
            · replace hs := cond_t h26 hs
              refine WP.region ?_
              refine WO.val (PO.build (v := .agg #[.int .i64 3]) rfl (fun w => by simp [Instr.build, Instr.fill, Value.cells, addr_add', Tryz.zeroValue105, Tryz.runUnderlying105, Tryz.sizeOf28])) rfl ?_
              refine WO.val (PO.makeIface rfl Tryz.runUnderlying105 rfl) rfl ?_
              obtain rfl := Option.some.inj hs
              refine WO.step (SO.of rfl (EO.panic rfl ⟨3, _, rfl, rfl, fun _ s_ => Sat.out (B := [gl]) [4, 5] rfl s_⟩)) rfl ?_
              rintro _ _ h_
              exact h_.elim
            · replace hs := cond_f h26 hs
              refine WP.skip ?_
              refine WP.seq ?_
              obtain ⟨x28, hx28, hs⟩ := bind_elim hs
              have tx29 := t_St_Make (p0 := s0) hx28
              refine WP.draw (γ := Unit) Tryz.mixedRdr [some 138, some 139, some 140, some 141, some 142, some 143, some 137, some 144, some 145, some 8, some 9] rfl [(0, .pointer (some ⟨p0, 0, none⟩)), (3, .pointer (some ⟨b3, 0, none⟩))] ⟨rfl, rfl, trivial⟩ (fun g27 => [.pointer (some ⟨p0, 0, none⟩), .pointer (some ⟨p0, 0, none⟩), .pointer (some ⟨p0, 0, none⟩), .pointer (some ⟨s0, 0, none⟩), .agg #[.int .i64 x2, .int .i64 x25, .int .i64 j5_3, .int .i64 j5_2, .int .i64 j5_1, .int .u64 j4_2, .string j4_3], .tuple #[.int .i64 x28.2.1, .int .i64 x28.2.2], .tuple #[.int .i64 x28.2.1, .int .i64 x28.2.2], .int .i64 x28.2.1, .int .i64 x28.2.2, .int .i64 x28.2.1, .int .i64 x28.2.2]) [⟨[], 0, 0, false⟩, ⟨[0], 0, 0, false⟩, ⟨[1], 0, 0, false⟩, ⟨[2], 0, 0, false⟩, ⟨[], 0, 0, false⟩, ⟨[3, 4], 0, 0, true⟩, ⟨[5], 1, 0, false⟩, ⟨[6], 1, 0, false⟩, ⟨[6], 1, 0, false⟩, ⟨[7, 7], 1, 0, false⟩, ⟨[8, 8], 1, 0, false⟩] [5] (fun g27 => [[pt p0 (.cells #[.pointer (some ⟨s0, 0, none⟩), v0, v1] 108 (0, 0)), slw 9 1 v0 j5_0.w.length (fl sc j5_0.w), slc 3 1 v1 j5_0.terms.length (fl ic j5_0.terms), stAt s0 j5_0.st, gl, F, pt b3 (.cells #[.int .i64 x2, .int .i64 x25, .int .i64 j5_3, .int .i64 j5_2, .int .i64 j5_1, .int .u64 j4_2, .string j4_3] 45 (0, 0))], [pt p0 (.cells #[.pointer (some ⟨s0, 0, none⟩), v0, v1] 108 (0, 0)), slw 9 1 v0 j5_0.w.length (fl sc j5_0.w), slc 3 1 v1 j5_0.terms.length (fl ic j5_0.terms), stAt s0 x28.1, gl, F, pt b3 (.cells #[.int .i64 x2, .int .i64 x25, .int .i64 j5_3, .int .i64 j5_2, .int .i64 j5_1, .int .u64 j4_2, .string j4_3] 45 (0, 0))]]) rfl rfl rfl ⟨(fun g27 => SO.at (SO.val (PO.move rfl) rfl) rfl rfl), (fun g27 => SO.at (SO.val (PO.nilCheck rfl) rfl) rfl rfl), (fun g27 => SO.at (SO.val (PO.fieldAddr rfl Tryz.runUnderlying108 rfl Tryz.sizeOf23 rfl) rfl) rfl rfl), (fun g27 => SO.at (SO.val (PO.load 0 rfl Tryz.isAgg23 rfl rfl) rfl) rfl rfl), (fun g27 => SO.at (SO.val (PO.loadAgg 6 rfl Tryz.isAgg45 Tryz.sizeOf45 rfl rfl rfl) rfl) rfl rfl), (fun g27 => SO.eff (EO.call1 3 _ Tryz.call31 rfl rfl tx29 rfl) rfl fun _ _ ⟨e1, e2⟩ => ⟨g27, fun _ => by rw [e1]; rfl, e2.trans rfl, (AgreeM_refl _ _ rfl)⟩), (fun g27 => SO.at (SO.val (PO.move rfl) rfl) rfl rfl), (fun g27 => SO.at (SO.val (PO.extract rfl rfl) rfl) rfl rfl), (fun g27 => SO.at (SO.val (PO.extract rfl rfl) rfl) rfl rfl), (fun g27 => SO.at (SO.val (PO.assign rfl) rfl) rfl rfl), (fun g27 => SO.at (SO.val (PO.assign rfl) rfl) rfl rfl), trivial⟩ (fun g27 => [pt p0 (.cells #[.pointer (some ⟨s0, 0, none⟩), v0, v1] 108 (0, 0)), slw 9 1 v0 j5_0.w.length (fl sc j5_0.w), slc 3 1 v1 j5_0.terms.length (fl ic j5_0.terms), stAt s0 x28.1, gl, F, pt b3 (.cells #[.int .i64 x2, .int .i64 x25, .int .i64 j5_3, .int .i64 j5_2, .int .i64 j5_1, .int .u64 j4_2, .string j4_3] 45 (0, 0))]) (fun _ => rfl) (fun g27 => [(138, .pointer (some ⟨p0, 0, none⟩)), (139, .pointer (some ⟨p0, 0, none⟩)), (140, .pointer (some ⟨p0, 0, none⟩)), (141, .pointer (some ⟨s0, 0, none⟩)), (142, .agg #[.int .i64 x2, .int .i64 x25, .int .i64 j5_3, .int .i64 j5_2, .int .i64 j5_1, .int .u64 j4_2, .string j4_3]), (143, .tuple #[.int .i64 x28.2.1, .int .i64 x28.2.2]), (137, .tuple #[.int .i64 x28.2.1, .int .i64 x28.2.2]), (144, .int .i64 x28.2.1), (145, .int .i64 x28.2.2), (8, .int .i64 x28.2.1), (9, .int .i64 x28.2.2), (0, .pointer (some ⟨p0, 0, none⟩)), (3, .pointer (some ⟨b3, 0, none⟩))]) (fun _ => rfl) (fun g27 => ?_)
              refine WP.seq ?_
              refine WP.seq ?_
              refine WP.region ?_
              refine WO.val (PO.move rfl) rfl ?_
              refine WO.val (PO.neq rfl rfl) rfl ?_
              refine WO.nil ?_
              refine WP.cond rfl (fun h30 => ?_) (fun h30 => ?_)
              · replace hs := cond_t h30 hs
                refine WP.region ?_
                refine WO.val (PO.move rfl) rfl ?_
                refine WO.val (PO.build (v := .agg #[.int .i64 x28.2.2]) rfl (fun w => by simp [Instr.build, Instr.fill, Value.cells, addr_add', Tryz.zeroValue105, Tryz.runUnderlying105, Tryz.sizeOf28])) rfl ?_
                refine WO.val (PO.makeIface rfl Tryz.runUnderlying105 rfl) rfl ?_
                obtain rfl := Option.some.inj hs
                refine WO.step (SO.of rfl (EO.panic rfl ⟨x28.2.2, _, rfl, rfl, fun _ s_ => Sat.out (B := [gl]) [4, 5] rfl s_⟩)) rfl ?_
                rintro _ _ h_
                exact h_.elim
              · replace hs := cond_f h30 hs
                refine WP.skip ?_
                refine WP.seq ?_
                refine WP.region ?_
                refine WO.val (PO.move rfl) rfl ?_
                refine WO.val (PO.assign rfl) rfl ?_
                refine WO.nil ?_
                refine WP.ret ?_
                obtain rfl := Option.some.inj hs
                exact ⟨_, (), _, _, rfl, Res.one (RV.tmp rfl), rfl, fun _ s => Sat.out [0, 1, 2] rfl ((fun _ s => rdAt_close (u := (⟨j5_0.w, j5_0.terms, x28.1⟩ : Rd)) s) _ s)⟩
          · replace hs := cond_f h23 hs
            refine WP.seq ?_
            refine WP.region ?_
            refine WO.val (PO.move rfl) rfl ?_
            refine WO.val (PO.eql rfl rfl) rfl ?_
            refine WO.val (PO.assign rfl) rfl ?_
            refine WO.nil ?_
            refine WP.cond rfl (fun h31 => ?_) (fun h31 => ?_)
            · replace hs := cond_t h31 hs
              refine WP.seq ?_
              refine WP.openRd (fun v0 v1 => ?_)
              obtain ⟨x33, hx33, hs⟩ := bind_elim hs
              obtain ⟨x34, hx34, hs⟩ := bind_elim hs
              refine WP.draw (γ := Unit) Tryz.mixedRdr [some 93, some 94, some 95, some 96, some 97, some 98, some 99, some 100, some 101, some 102, some 103, some 104, some 105, some 106, some 107, some 108, some 109, none] rfl [(3, .pointer (some ⟨b3, 0, none⟩)), (0, .pointer (some ⟨p0, 0, none⟩))] ⟨rfl, rfl, trivial⟩ (fun g32 => [.pointer (some ⟨p0, 0, none⟩), .pointer (some ⟨p0, 0, none⟩), .pointer (some ⟨p0, 0, none⟩), .pointer (some ⟨s0, 0, none⟩), .pointer (some ⟨b3, 2, none⟩), .int .i64 j5_3, .int .i64 x33, .pointer (some ⟨p0, 0, none⟩), .pointer (some ⟨p0, 0, none⟩), .pointer (some ⟨p0, 0, none⟩), .pointer (some ⟨s0, 0, none⟩), .pointer (some ⟨b3, 3, none⟩), .int .i64 j5_2, .int .i64 x34, .int .i64 (IntKind.i64.wrap (x33 + x34)), .int .i64 (minI (IntKind.i64.wrap (x33 + x34)) 65), .pointer (some ⟨b3, 1, none⟩), undef]) [⟨[], 0, 0, false⟩, ⟨[0], 0, 0, false⟩, ⟨[1], 0, 0, false⟩, ⟨[2], 0, 0, false⟩, ⟨[], 0, 0, false⟩, ⟨[4], 0, 0, false⟩, ⟨[3, 5], 0, 0, false⟩, ⟨[], 0, 0, false⟩, ⟨[7], 0, 0, false⟩, ⟨[8], 0, 0, false⟩, ⟨[9], 0, 0, false⟩, ⟨[], 0, 0, false⟩, ⟨[11], 0, 0, false⟩, ⟨[10, 12], 0, 0, false⟩, ⟨[6, 13], 0, 0, false⟩, ⟨[14], 0, 0, false⟩, ⟨[], 0, 0, false⟩, ⟨[16, 15, 15], 0, 0, true⟩] [17] (fun g32 => [[pt p0 (.cells #[.pointer (some ⟨s0, 0, none⟩), v0, v1] 108 (0, 0)), slw 9 1 v0 j5_0.w.length (fl sc j5_0.w), slc 3 1 v1 j5_0.terms.length (fl ic j5_0.terms), stAt s0 j5_0.st, gl, F, pt b3 (.cells #[.int .i64 x2, .int .i64 j4_1, .int .i64 j5_3, .int .i64 j5_2, .int .i64 j5_1, .int .u64 j4_2, .string j4_3] 45 (0, 0))], [pt p0 (.cells #[.pointer (some ⟨s0, 0, none⟩), v0, v1] 108 (0, 0)), slw 9 1 v0 j5_0.w.length (fl sc j5_0.w), slc 3 1 v1 j5_0.terms.length (fl ic j5_0.terms), stAt s0 j5_0.st, gl, F, pt b3 (.cells #[.int .i64 x2, .int .i64 (minI (IntKind.i64.wrap (x33 + x34)) 65), .int .i64 j5_3, .int .i64 j5_2, .int .i64 j5_1, .int .u64 j4_2, .string j4_3] 45 (0, 0))]]) rfl rfl rfl ⟨(fun g32 => SO.at (SO.val (PO.move rfl) rfl) rfl rfl), (fun g32 => SO.at (SO.val (PO.nilCheck rfl) rfl) rfl rfl), (fun g32 => SO.at (SO.val (PO.fieldAddr rfl Tryz.runUnderlying108 rfl Tryz.sizeOf23 rfl) rfl) rfl rfl), (fun g32 => SO.at (SO.val (PO.load 0 rfl Tryz.isAgg23 rfl rfl) rfl) rfl rfl), (fun g32 => SO.at (SO.val (PO.fieldAddr rfl Tryz.runUnderlying45 rfl Tryz.sizeOf3 rfl) rfl) rfl rfl), (fun g32 => SO.at (SO.val (PO.load 6 rfl Tryz.isAgg3 rfl rfl) rfl) rfl rfl), (fun g32 => SO.at (SO.vo (VO.call1 3 Tryz.call73 rfl rfl (t_St_w hx33)) rfl) rfl rfl), (fun g32 => SO.at (SO.val (PO.move rfl) rfl) rfl rfl), (fun g32 => SO.at (SO.val (PO.nilCheck rfl) rfl) rfl rfl), (fun g32 => SO.at (SO.val (PO.fieldAddr rfl Tryz.runUnderlying108 rfl Tryz.sizeOf23 rfl) rfl) rfl rfl), (fun g32 => SO.at (SO.val (PO.load 0 rfl Tryz.isAgg23 rfl rfl) rfl) rfl rfl), (fun g32 => SO.at (SO.val (PO.fieldAddr rfl Tryz.runUnderlying45 rfl Tryz.sizeOf3 rfl) rfl) rfl rfl), (fun g32 => SO.at (SO.val (PO.load 6 rfl Tryz.isAgg3 rfl rfl) rfl) rfl rfl), (fun g32 => SO.at (SO.vo (VO.call1 3 Tryz.call73 rfl rfl (t_St_w hx34)) rfl) rfl rfl), (fun g32 => SO.at (SO.val (PO.add rfl rfl) rfl) rfl rfl), (fun g32 => SO.at (SO.val (PO.min2 rfl rfl) rfl) rfl rfl), (fun g32 => SO.at (SO.val (PO.fieldAddr rfl Tryz.runUnderlying45 rfl Tryz.sizeOf3 rfl) rfl) rfl rfl), (fun g32 => SO.eff (EO.store 6 _ rfl rfl Tryz.sizeOf3 rfl rfl rfl rfl) rfl fun _ _ e2 => ⟨g32, fun h_ => absurd (show false = true from h_) Bool.false_ne_true, e2.trans rfl, (AgreeM_refl _ _ rfl)⟩), trivial⟩ (fun g32 => [pt p0 (.cells #[.pointer (some ⟨s0, 0, none⟩), v0, v1] 108 (0, 0)), slw 9 1 v0 j5_0.w.length (fl sc j5_0.w), slc 3 1 v1 j5_0.terms.length (fl ic j5_0.terms), stAt s0 j5_0.st, gl, F, pt b3 (.cells #[.int .i64 x2, .int .i64 (minI (IntKind.i64.wrap (x33 + x34)) 65), .int .i64 j5_3, .int .i64 j5_2, .int .i64 j5_1, .int .u64 j4_2, .string j4_3] 45 (0, 0))]) (fun _ => rfl) (fun g32 => [(93, .pointer (some ⟨p0, 0, none⟩)), (94, .pointer (some ⟨p0, 0, none⟩)), (95, .pointer (some ⟨p0, 0, none⟩)), (96, .pointer (some ⟨s0, 0, none⟩)), (97, .pointer (some ⟨b3, 2, none⟩)), (98, .int .i64 j5_3), (99, .int .i64 x33), (100, .pointer (some ⟨p0, 0, none⟩)), (101, .pointer (some ⟨p0, 0, none⟩)), (102, .pointer (some ⟨p0, 0, none⟩)), (103, .pointer (some ⟨s0, 0, none⟩)), (104, .pointer (some ⟨b3, 3, none⟩)), (105, .int .i64 j5_2), (106, .int .i64 x34), (107, .int .i64 (IntKind.i64.wrap (x33 + x34))), (108, .int .i64 (minI (IntKind.i64.wrap (x33 + x34)) 65)), (109, .pointer (some ⟨b3, 1, none⟩)), (3, .pointer (some ⟨b3, 0, none⟩)), (0, .pointer (some ⟨p0, 0, none⟩))]) (fun _ => rfl) (fun g32 => ?_)
              refine WP.seq ?_
              refine WP.region ?_
              refine WO.val (PO.fieldAddr rfl Tryz.runUnderlying45 rfl Tryz.sizeOf3 rfl) rfl ?_
              refine WO.val (PO.load 6 rfl Tryz.isAgg3 rfl rfl) rfl ?_
              refine WO.val (PO.gtr rfl rfl) rfl ?_
              refine WO.nil ?_
              refine WP.cond rfl (fun h35 => ?_) (fun h35 => ?_)
              · replace hs := cond_t h35 hs
                refine WP.region ?_
                refine WO.val (PO.fieldAddr rfl Tryz.runUnderlying45 rfl Tryz.sizeOf3 rfl) rfl ?_
                refine WO.step (SO.of rfl (EO.store 6 _ rfl rfl Tryz.sizeOf3 rfl rfl rfl rfl)) rfl ?_
                rintro _ _ rfl
                refine WO.toL [pt p0 (.cells #[.pointer (some ⟨s0, 0, none⟩), v0, v1] 108 (0, 0)), slw 9 1 v0 j5_0.w.length (fl sc j5_0.w), slc 3 1 v1 j5_0.terms.length (fl ic j5_0.terms), stAt s0 j5_0.st, gl, F, pt b3 (.cells #[.int .i64 x2, .int .i64 0, .int .i64 j5_3, .int .i64 j5_2, .int .i64 j5_1, .int .u64 j4_2, .string j4_3] 45 (0, 0))] rfl ?_
                refine WO.nil ?_
                refine WP.seq ?_
                refine WP.seq ?_
                refine WP.region ?_
                refine WO.val (PO.move rfl) rfl ?_
                refine WO.val (PO.nilCheck rfl) rfl ?_
                refine WO.val (PO.fieldAddr rfl Tryz.runUnderlying108 rfl Tryz.sizeOf41 rfl) rfl ?_
                refine WO.val (PO.load 0 rfl Tryz.isAgg41 rfl rfl) rfl ?_
                refine WO.val (PO.lenW 1 rfl Tryz.runUnderlying41 rfl) rfl ?_
                refine WO.val (PO.gtr rfl rfl) rfl ?_
                refine WO.nil ?_
                refine WP.cond rfl (fun h36 => ?_) (fun h36 => ?_)
                · replace hs := cond_t h36 hs
                  refine WP.region ?_
                  refine WO.val (PO.build (v := .agg #[.int .i64 3]) rfl (fun w => by simp [Instr.build, Instr.fill, Value.cells, addr_add', Tryz.zeroValue105, Tryz.runUnderlying105, Tryz.sizeOf28])) rfl ?_
                  refine WO.val (PO.makeIface rfl Tryz.runUnderlying105 rfl) rfl ?_
                  obtain rfl := Option.some.inj hs
                  refine WO.step (SO.of rfl (EO.panic rfl ⟨3, _, rfl, rfl, fun _ s_ => Sat.out (B := [gl]) [4, 5] rfl s_⟩)) rfl ?_
                  rintro _ _ h_
                  exact h_.elim
                · replace hs := cond_f h36 hs
                  refine WP.skip ?_
                  refine WP.seq ?_
                  obtain ⟨x38, hx38, hs⟩ := bind_elim hs
                  have tx39 := t_St_Make (p0 := s0) hx38
                  refine WP.draw (γ := Unit) Tryz.mixedRdr [some 138, some 139, some 140, some 141, some 142, some 143, some 137, some 144, some 145, some 8, some 9] rfl [(0, .pointer (some ⟨p0, 0, none⟩)), (3, .pointer (some ⟨b3, 0, none⟩))] ⟨rfl, rfl, trivial⟩ (fun g37 => [.pointer (some ⟨p0, 0, none⟩), .pointer (some ⟨p0, 0, none⟩), .pointer (some ⟨p0, 0, none⟩), .pointer (some ⟨s0, 0, none⟩), .agg #[.int .i64 x2, .int .i64 0, .int .i64 j5_3, .int .i64 j5_2, .int .i64 j5_1, .int .u64 j4_2, .string j4_3], .tuple #[.int .i64 x38.2.1, .int .i64 x38.2.2], .tuple #[.int .i64 x38.2.1, .int .i64 x38.2.2], .int .i64 x38.2.1, .int .i64 x38.2.2, .int .i64 x38.2.1, .int .i64 x38.2.2]) [⟨[], 0, 0, false⟩, ⟨[0], 0, 0, false⟩, ⟨[1], 0, 0, false⟩, ⟨[2], 0, 0, false⟩, ⟨[], 0, 0, false⟩, ⟨[3, 4], 0, 0, true⟩, ⟨[5], 1, 0, false⟩, ⟨[6], 1, 0, false⟩, ⟨[6], 1, 0, false⟩, ⟨[7, 7], 1, 0, false⟩, ⟨[8, 8], 1, 0, false⟩] [5] (fun g37 => [[pt p0 (.cells #[.pointer (some ⟨s0, 0, none⟩), v0, v1] 108 (0, 0)), slw 9 1 v0 j5_0.w.length (fl sc j5_0.w), slc 3 1 v1 j5_0.terms.length (fl ic j5_0.terms), stAt s0 j5_0.st, gl, F, pt b3 (.cells #[.int .i64 x2, .int .i64 0, .int .i64 j5_3, .int .i64 j5_2, .int .i64 j5_1, .int .u64 j4_2, .string j4_3] 45 (0, 0))], [pt p0 (.cells #[.pointer (some ⟨s0, 0, none⟩), v0, v1] 108 (0, 0)), slw 9 1 v0 j5_0.w.length (fl sc j5_0.w), slc 3 1 v1 j5_0.terms.length (fl ic j5_0.terms), stAt s0 x38.1, gl, F, pt b3 (.cells #[.int .i64 x2, .int .i64 0, .int .i64 j5_3, .int .i64 j5_2, .int .i64 j5_1, .int .u64 j4_2, .string j4_3] 45 (0, 0))]]) rfl rfl rfl ⟨(fun g37 => SO.at (SO.val (PO.move rfl) rfl) rfl rfl), (fun g37 => SO.at (SO.val (PO.nilCheck rfl) rfl) rfl rfl), (fun g37 => SO.at (SO.val (PO.fieldAddr rfl Tryz.runUnderlying108 rfl Tryz.sizeOf23 rfl) rfl) rfl rfl), (fun g37 => SO.at (SO.val (PO.load 0 rfl Tryz.isAgg23 rfl rfl) rfl) rfl rfl), (fun g37 => SO.at (SO.val (PO.loadAgg 6 rfl Tryz.isAgg45 Tryz.sizeOf45 rfl rfl rfl) rfl) rfl rfl), (fun g37 => SO.eff (EO.call1 3 _ Tryz.call31 rfl rfl tx39 rfl) rfl fun _ _ ⟨e1, e2⟩ => ⟨g37, fun _ => by rw [e1]; rfl, e2.trans rfl, (AgreeM_refl _ _ rfl)⟩), (fun g37 => SO.at (SO.val (PO.move rfl) rfl) rfl rfl), (fun g37 => SO.at (SO.val (PO.extract rfl rfl) rfl) rfl rfl), (fun g37 => SO.at (SO.val (PO.extract rfl rfl) rfl) rfl rfl), (fun g37 => SO.at (SO.val (PO.assign rfl) rfl) rfl rfl), (fun g37 => SO.at (SO.val (PO.assign rfl) rfl) rfl rfl), trivial⟩ (fun g37 => [pt p0 (.cells #[.pointer (some ⟨s0, 0, none⟩), v0, v1] 108 (0, 0)), slw 9 1 v0 j5_0.w.length (fl sc j5_0.w), slc 3 1 v1 j5_0.terms.length (fl ic j5_0.terms), stAt s0 x38.1, gl, F, pt b3 (.cells #[.int .i64 x2, .int .i64 0, .int .i64 j5_3, .int .i64 j5_2, .int .i64 j5_1, .int .u64 j4_2, .string j4_3] 45 (0, 0))]) (fun _ => rfl) (fun g37 => [(138, .pointer (some ⟨p0, 0, none⟩)), (139, .pointer (some ⟨p0, 0, none⟩)), (140, .pointer (some ⟨p0, 0, none⟩)), (141, .pointer (some ⟨s0, 0, none⟩)), (142, .agg #[.int .i64 x2, .int .i64 0, .int .i64 j5_3, .int .i64 j5_2, .int .i64 j5_1, .int .u64 j4_2, .string j4_3]), (143, .tuple #[.int .i64 x38.2.1, .int .i64 x38.2.2]), (137, .tuple #[.int .i64 x38.2.1, .int .i64 x38.2.2]), (144, .int .i64 x38.2.1), (145, .int .i64 x38.2.2), (8, .int .i64 x38.2.1), (9, .int .i64 x38.2.2), (0, .pointer (some ⟨p0, 0, none⟩)), (3, .pointer (some ⟨b3, 0, none⟩))]) (fun _ => rfl) (fun g37 => ?_)
                  refine WP.seq ?_
                  refine WP.seq ?_
                  refine WP.region ?_
                  refine WO.val (PO.move rfl) rfl ?_
                  refine WO.val (PO.neq rfl rfl) rfl ?_
                  refine WO.nil ?_
                  refine WP.cond rfl (fun h40 => ?_) (fun h40 => ?_)
                  · replace hs := cond_t h40 hs
                    refine WP.region ?_
                    refine WO.val (PO.move rfl) rfl ?_
                    refine WO.val (PO.build (v := .agg #[.int .i64 x38.2.2]) rfl (fun w => by simp [Instr.build, Instr.fill, Value.cells, addr_add', Tryz.zeroValue105, Tryz.runUnderlying105, Tryz.sizeOf28])) rfl ?_
                    refine WO.val (PO.makeIface rfl Tryz.runUnderlying105 rfl) rfl ?_
                    obtain rfl := Option.some.inj hs
                    refine WO.step (SO.of rfl (EO.panic rfl ⟨x38.2.2, _, rfl, rfl, fun _ s_ => Sat.out (B := [gl]) [4, 5] rfl s_⟩)) rfl ?_
                    rintro _ _ h_
                    exact h_.elim
                  · replace hs := cond_f h40 hs
                    refine WP.skip ?_
                    refine WP.seq ?_
                    refine WP.region ?_
                    refine WO.val (PO.move rfl) rfl ?_
                    refine WO.val (PO.assign rfl) rfl ?_
                    refine WO.nil ?_
                    refine WP.ret ?_
                    obtain rfl := Option.some.inj hs
                    exact ⟨_, (), _, _, rfl, Res.one (RV.tmp rfl), rfl, fun _ s => Sat.out [0, 1, 2] rfl ((fun _ s => rdAt_close (u := (⟨j5_0.w, j5_0.terms, x38.1⟩ : Rd)) s) _ s)⟩
              · replace hs := cond_f h35 hs
                refine WP.skip ?_
                refine WP.seq ?_
                refine WP.seq ?_
                refine WP.region ?_
                refine WO.val (PO.move rfl) rfl ?_
                refine WO.val (PO.nilCheck rfl) rfl ?_
                refine WO.val (PO.fieldAddr rfl Tryz.runUnderlying108 rfl Tryz.sizeOf41 rfl) rfl ?_
                refine WO.val (PO.load 0 rfl Tryz.isAgg41 rfl rfl) rfl ?_
                refine WO.val (PO.lenW 1 rfl Tryz.runUnderlying41 rfl) rfl ?_
                refine WO.val (PO.gtr rfl rfl) rfl ?_
                refine WO.nil ?_
                refine WP.cond rfl (fun h41 => ?_) (fun h41 => ?_)
                · replace hs := cond_t h41 hs
                  refine WP.region ?_
                  refine WO.val (PO.build (v := .agg #[.int .i64 3]) rfl (fun w => by simp [Instr.build, Instr.fill, Value.cells, addr_add', Tryz.zeroValue105, Tryz.runUnderlying105, Tryz.sizeOf28])) rfl ?_
                  refine WO.val (PO.makeIface rfl Tryz.runUnderlying105 rfl) rfl ?_
                  obtain rfl := Option.some.inj hs
                  refine WO.step (SO.of rfl (EO.panic rfl ⟨3, _, rfl, rfl, fun _ s_ => Sat.out (B := [gl]) [4, 5] rfl s_⟩)) rfl ?_
                  rintro _ _ h_
                  exact h_.elim
                · replace hs := cond_f h41 hs
                  refine WP.skip ?_
                  refine WP.seq ?_
                  obtain ⟨x43, hx43, hs⟩ := bind_elim hs
                  have tx44 := t_St_Make (p0 := s0) hx43
                  refine WP.draw (γ := Unit) Tryz.mixedRdr [some 138, some 139, some 140, some 141, some 142, some 143, some 137, some 144, some 145, some 8, some 9] rfl [(0, .pointer (some ⟨p0, 0, none⟩)), (3, .pointer (some ⟨b3, 0, none⟩))] ⟨rfl, rfl, trivial⟩ (fun g42 => [.pointer (some ⟨p0, 0, none⟩), .pointer (some ⟨p0, 0, none⟩), .pointer (some ⟨p0, 0, none⟩), .pointer (some ⟨s0, 0, none⟩), .agg #[.int .i64 x2, .int .i64 (minI (IntKind.i64.wrap (x33 + x34)) 65), .int .i64 j5_3, .int .i64 j5_2, .int .i64 j5_1, .int .u64 j4_2, .string j4_3], .tuple #[.int .i64 x43.2.1, .int .i64 x43.2.2], .tuple #[.int .i64 x43.2.1, .int .i64 x43.2.2], .int .i64 x43.2.1, .int .i64 x43.2.2, .int .i64 x43.2.1, .int .i64 x43.2.2]) [⟨[], 0, 0, false⟩, ⟨[0], 0, 0, false⟩, ⟨[1], 0, 0, false⟩, ⟨[2], 0, 0, false⟩, ⟨[], 0, 0, false⟩, ⟨[3, 4], 0, 0, true⟩, ⟨[5], 1, 0, false⟩, ⟨[6], 1, 0, false⟩, ⟨[6], 1, 0, false⟩, ⟨[7, 7], 1, 0, false⟩, ⟨[8, 8], 1, 0, false⟩] [5] (fun g42 => [[pt p0 (.cells #[.pointer (some ⟨s0, 0, none⟩), v0, v1] 108 (0, 0)), slw 9 1 v0 j5_0.w.length (fl sc j5_0.w), slc 3 1 v1 j5_0.terms.length (fl ic j5_0.terms), stAt s0 j5_0.st, gl, F, pt b3 (.cells #[.int .i64 x2, .int .i64 (minI (IntKind.i64.wrap (x33 + x34)) 65), .int .i64 j5_3, .int .i64 j5_2, .int .i64 j5_1, .int .u64 j4_2, .string j4_3] 45 (0, 0))], [pt p0 (.cells #[.pointer (some ⟨s0, 0, none⟩), v0, v1] 108 (0, 0)), slw 9 1 v0 j5_0.w.length (fl sc j5_0.w), slc 3 1 v1 j5_0.terms.length (fl ic j5_0.terms), stAt s0 x43.1, gl, F, pt b3 (.cells #[.int .i64 x2, .int .i64 (minI (IntKind.i64.wrap (x33 + x34)) 65), .int .i64 j5_3, .int .i64 j5_2, .int .i64 j5_1, .int .u64 j4_2, .string j4_3] 45 (0, 0))]]) rfl rfl rfl ⟨(fun g42 => SO.at (SO.val (PO.move rfl) rfl) rfl rfl), (fun g42 => SO.at (SO.val (PO.nilCheck rfl) rfl) rfl rfl), (fun g42 => SO.at (SO.val (PO.fieldAddr rfl Tryz.runUnderlying108 rfl Tryz.sizeOf23 rfl) rfl) rfl rfl), (fun g42 => SO.at (SO.val (PO.load 0 rfl Tryz.isAgg23 rfl rfl) rfl) rfl rfl), (fun g42 => SO.at (SO.val (PO.loadAgg 6 rfl Tryz.isAgg45 Tryz.sizeOf45 rfl rfl rfl) rfl) rfl rfl), (fun g42 => SO.eff (EO.call1 3 _ Tryz.call31 rfl rfl tx44 rfl) rfl fun _ _ ⟨e1, e2⟩ => ⟨g42, fun _ => by rw [e1]; rfl, e2.trans rfl, (AgreeM_refl _ _ rfl)⟩), (fun g42 => SO.at (SO.val (PO.move rfl) rfl) rfl rfl), (fun g42 => SO.at (SO.val (PO.extract rfl rfl) rfl) rfl rfl), (fun g42 => SO.at (SO.val (PO.extract rfl rfl) rfl) rfl rfl), (fun g42 => SO.at (SO.val (PO.assign rfl) rfl) rfl rfl), (fun g42 => SO.at (SO.val (PO.assign rfl) rfl) rfl rfl), trivial⟩ (fun g42 => [pt p0 (.cells #[.pointer (some ⟨s0, 0, none⟩), v0, v1] 108 (0, 0)), slw 9 1 v0 j5_0.w.length (fl sc j5_0.w), slc 3 1 v1 j5_0.terms.length (fl ic j5_0.terms), stAt s0 x43.1, gl, F, pt b3 (.cells #[.int .i64 x2, .int .i64 (minI (IntKind.i64.wrap (x33 + x34)) 65), .int .i64 j5_3, .int .i64 j5_2, .int .i64 j5_1, .int .u64 j4_2, .string j4_3] 45 (0, 0))]) (fun _ => rfl) (fun g42 => [(138, .pointer (some ⟨p0, 0, none⟩)), (139, .pointer (some ⟨p0, 0, none⟩)), (140, .pointer (some ⟨p0, 0, none⟩)), (141, .pointer (some ⟨s0, 0, none⟩)), (142, .agg #[.int .i64 x2, .int .i64 (minI (IntKind.i64.wrap (x33 + x34)) 65), .int .i64 j5_3, .int .i64 j5_2, .int .i64 j5_1, .int .u64 j4_2, .string j4_3]), (143, .tuple #[.int .i64 x43.2.1, .int .i64 x43.2.2]), (137, .tuple #[.int .i64 x43.2.1, .int .i64 x43.2.2]), (144, .int .i64 x43.2.1), (145, .int .i64 x43.2.2), (8, .int .i64 x43.2.1), (9, .int .i64 x43.2.2), (0, .pointer (some ⟨p0, 0, none⟩)), (3, .pointer (some ⟨b3, 0, none⟩))]) (fun _ => rfl) (fun g42 => ?_)
                  refine WP.seq ?_
                  refine WP.seq ?_
                  refine WP.region ?_
                  refine WO.val (PO.move rfl) rfl ?_
                  refine WO.val (PO.neq rfl rfl) rfl ?_
                  refine WO.nil ?_
                  refine WP.cond rfl (fun h45 => ?_) (fun h45 => ?_)
                  · replace hs := cond_t h45 hs
                    refine WP.region ?_
                    refine WO.val (PO.move rfl) rfl ?_
                    refine WO.val (PO.build (v := .agg #[.int .i64 x43.2.2]) rfl (fun w => by simp [Instr.build, Instr.fill, Value.cells, addr_add', Tryz.zeroValue105, Tryz.runUnderlying105, Tryz.sizeOf28])) rfl ?_
                    refine WO.val (PO.makeIface rfl Tryz.runUnderlying105 rfl) rfl ?_
                    obtain rfl := Option.some.inj hs
                    refine WO.step (SO.of rfl (EO.panic rfl ⟨x43.2.2, _, rfl, rfl, fun _ s_ => Sat.out (B := [gl]) [4, 5] rfl s_⟩)) rfl ?_
                    rintro _ _ h_
                    exact h_.elim
                  · replace hs := cond_f h45 hs
                    refine WP.skip ?_
                    refine WP.seq ?_
                    refine WP.region ?_
                    refine WO.val (PO.move rfl) rfl ?_
                    refine WO.val (PO.assign rfl) rfl ?_
                    refine WO.nil ?_
                    refine WP.ret ?_
                    obtain rfl := Option.some.inj hs
                    exact ⟨_, (), _, _, rfl, Res.one (RV.tmp rfl), rfl, fun _ s => Sat.out [0, 1, 2] rfl ((fun _ s => rdAt_close (u := (⟨j5_0.w, j5_0.terms, x43.1⟩ : Rd)) s) _ s)⟩
            · replace hs := cond_f h31 hs
              refine WP.seq ?_
              refine WP.regionG (D := [some 115, some 116, some 117, some 118, some 119, some 120, some 114]) rfl ?_
              refine WO.val (PO.move rfl) rfl ?_
              refine WO.val (PO.geq rfl rfl) rfl ?_
              refine WO.val (PO.move rfl) rfl ?_
              refine WO.guardT rfl rfl (fun hg46 => (PO.move rfl).vo) rfl ?_
              refine WO.guardT rfl rfl (fun hg47 => (PO.leq (evg hg47 rfl) rfl).vo) rfl ?_
              refine WO.val (PO.pickA rfl rfl rfl) rfl ?_
              refine WO.val (PO.assign rfl) rfl ?_
              refine WO.nil ?_
              refine WP.cond rfl (fun h48 => ?_) (fun h48 => ?_)
              · replace hs := cond_t h48 hs
                refine WP.openRd (fun v0 v1 => ?_)
                obtain ⟨x50, hx50, hs⟩ := bind_elim hs
                refine WP.draw (γ := Unit) Tryz.mixedRdr [some 121, some 122, some 123, some 124, some 125, some 126, some 127, some 128, none] rfl [(3, .pointer (some ⟨b3, 0, none⟩)), (0, .pointer (some ⟨p0, 0, none⟩))] ⟨rfl, rfl, trivial⟩ (fun g49 => [.pointer (some ⟨p0, 0, none⟩), .pointer (some ⟨p0, 0, none⟩), .pointer (some ⟨p0, 0, none⟩), .pointer (some ⟨s0, 0, none⟩), .pointer (some ⟨b3, 2, none⟩), .int .i64 j5_3, .int .i64 x50, .pointer (some ⟨b3, 1, none⟩), undef]) [⟨[], 0, 0, false⟩, ⟨[0], 0, 0, false⟩, ⟨[1], 0, 0, false⟩, ⟨[2], 0, 0, false⟩, ⟨[], 0, 0, false⟩, ⟨[4], 0, 0, false⟩, ⟨[3, 5], 0, 0, false⟩, ⟨[], 0, 0, false⟩, ⟨[7, 6, 6, 6], 0, 0, true⟩] [8] (fun g49 => [[pt p0 (.cells #[.pointer (some ⟨s0, 0, none⟩), v0, v1] 108 (0, 0)), slw 9 1 v0 j5_0.w.length (fl sc j5_0.w), slc 3 1 v1 j5_0.terms.length (fl ic j5_0.terms), stAt s0 j5_0.st, gl, F, pt b3 (.cells #[.int .i64 x2, .int .i64 j4_1, .int .i64 j5_3, .int .i64 j5_2, .int .i64 j5_1, .int .u64 j4_2, .string j4_3] 45 (0, 0))], [pt p0 (.cells #[.pointer (some ⟨s0, 0, none⟩), v0, v1] 108 (0, 0)), slw 9 1 v0 j5_0.w.length (fl sc j5_0.w), slc 3 1 v1 j5_0.terms.length (fl ic j5_0.terms), stAt s0 j5_0.st, gl, F, pt b3 (.cells #[.int .i64 x2, .int .i64 x50, .int .i64 j5_3, .int .i64 j5_2, .int .i64 j5_1, .int .u64 j4_2, .string j4_3] 45 (0, 0))]]) rfl rfl rfl ⟨(fun g49 => SO.at (SO.val (PO.move rfl) rfl) rfl rfl), (fun g49 => SO.at (SO.val (PO.nilCheck rfl) rfl) rfl rfl), (fun g49 => SO.at (SO.val (PO.fieldAddr rfl Tryz.runUnderlying108 rfl Tryz.sizeOf23 rfl) rfl) rfl rfl), (fun g49 => SO.at (SO.val (PO.load 0 rfl Tryz.isAgg23 rfl rfl) rfl) rfl rfl), (fun g49 => SO.at (SO.val (PO.fieldAddr rfl Tryz.runUnderlying45 rfl Tryz.sizeOf3 rfl) rfl) rfl rfl), (fun g49 => SO.at (SO.val (PO.load 6 rfl Tryz.isAgg3 rfl rfl) rfl) rfl rfl), (fun g49 => SO.at (SO.vo (VO.call1 3 Tryz.call73 rfl rfl (t_St_w hx50)) rfl) rfl rfl), (fun g49 => SO.at (SO.val (PO.fieldAddr rfl Tryz.runUnderlying45 rfl Tryz.sizeOf3 rfl) rfl) rfl rfl), (fun g49 => SO.eff (EO.store 6 _ rfl rfl Tryz.sizeOf3 rfl rfl rfl rfl) rfl fun _ _ e2 => ⟨g49, fun h_ => absurd (show false = true from h_) Bool.false_ne_true, e2.trans rfl, (AgreeM_refl _ _ rfl)⟩), trivial⟩ (fun g49 => [pt p0 (.cells #[.pointer (some ⟨s0, 0, none⟩), v0, v1] 108 (0, 0)), slw 9 1 v0 j5_0.w.length (fl sc j5_0.w), slc 3 1 v1 j5_0.terms.length (fl ic j5_0.terms), stAt s0 j5_0.st, gl, F, pt b3 (.cells #[.int .i64 x2, .int .i64 x50, .int .i64 j5_3, .int .i64 j5_2, .int .i64 j5_1, .int .u64 j4_2, .string j4_3] 45 (0, 0))]) (fun _ => rfl) (fun g49 => [(121, .pointer (some ⟨p0, 0, none⟩)), (122, .pointer (some ⟨p0, 0, none⟩)), (123, .pointer (some ⟨p0, 0, none⟩)), (124, .pointer (some ⟨s0, 0, none⟩)), (125, .pointer (some ⟨b3, 2, none⟩)), (126, .int .i64 j5_3), (127, .int .i64 x50), (128, .pointer (some ⟨b3, 1, none⟩)), (3, .pointer (some ⟨b3, 0, none⟩)), (0, .pointer (some ⟨p0, 0, none⟩))]) (fun _ => rfl) (fun g49 => ?_)
                refine WP.seq ?_
                refine WP.seq ?_
                refine WP.region ?_
                refine WO.val (PO.move rfl) rfl ?_
                refine WO.val (PO.nilCheck rfl) rfl ?_
                refine WO.val (PO.fieldAddr rfl Tryz.runUnderlying108 rfl Tryz.sizeOf41 rfl) rfl ?_
                refine WO.val (PO.load 0 rfl Tryz.isAgg41 rfl rfl) rfl ?_
                refine WO.val (PO.lenW 1 rfl Tryz.runUnderlying41 rfl) rfl ?_
                refine WO.val (PO.gtr rfl rfl) rfl ?_
                refine WO.nil ?_
                refine WP.cond rfl (fun h51 => ?_) (fun h51 => ?_)
                · replace hs := cond_t h51 hs
                  refine WP.region ?_
                  refine WO.val (PO.build (v := .agg #[.int .i64 3]) rfl (fun w => by simp [Instr.build, Instr.fill, Value.cells, addr_add', Tryz.zeroValue105, Tryz.runUnderlying105, Tryz.sizeOf28])) rfl ?_
                  refine WO.val (PO.makeIface rfl Tryz.runUnderlying105 rfl) rfl ?_
                  obtain rfl := Option.some.inj hs
                  refine WO.step (SO.of rfl (EO.panic rfl ⟨3, _, rfl, rfl, fun _ s_ => Sat.out (B := [gl]) [4, 5] rfl s_⟩)) rfl ?_
                  rintro _ _ h_
                  exact h_.elim
                · replace hs := cond_f h51 hs
                  refine WP.skip ?_
                  refine WP.seq ?_
                  obtain ⟨x53, hx53, hs⟩ := bind_elim hs
                  have tx54 := t_St_Make (p0 := s0) hx53
                  refine WP.draw (γ := Unit) Tryz.mixedRdr [some 138, some 139, some 140, some 141, some 142, some 143, some 137, some 144, some 145, some 8, some 9] rfl [(0, .pointer (some ⟨p0, 0, none⟩)), (3, .pointer (some ⟨b3, 0, none⟩))] ⟨rfl, rfl, trivial⟩ (fun g52 => [.pointer (some ⟨p0, 0, none⟩), .pointer (some ⟨p0, 0, none⟩), .pointer (some ⟨p0, 0, none⟩), .pointer (some ⟨s0, 0, none⟩), .agg #[.int .i64 x2, .int .i64 x50, .int .i64 j5_3, .int .i64 j5_2, .int .i64 j5_1, .int .u64 j4_2, .string j4_3], .tuple #[.int .i64 x53.2.1, .int .i64 x53.2.2], .tuple #[.int .i64 x53.2.1, .int .i64 x53.2.2], .int .i64 x53.2.1, .int .i64 x53.2.2, .int .i64 x53.2.1, .int .i64 x53.2.2]) [⟨[], 0, 0, false⟩, ⟨[0], 0, 0, false⟩, ⟨[1], 0, 0, false⟩, ⟨[2], 0, 0, false⟩, ⟨[], 0, 0, false⟩, ⟨[3, 4], 0, 0, true⟩, ⟨[5], 1, 0, false⟩, ⟨[6], 1, 0, false⟩, ⟨[6], 1, 0, false⟩, ⟨[7, 7], 1, 0, false⟩, ⟨[8, 8], 1, 0, false⟩] [5] (fun g52 => [[pt p0 (.cells #[.pointer (some ⟨s0, 0, none⟩), v0, v1] 108 (0, 0)), slw 9 1 v0 j5_0.w.length (fl sc j5_0.w), slc 3 1 v1 j5_0.terms.length (fl ic j5_0.terms), stAt s0 j5_0.st, gl, F, pt b3 (.cells #[.int .i64 x2, .int .i64 x50, .int .i64 j5_3, .int .i64 j5_2, .int .i64 j5_1, .int .u64 j4_2, .string j4_3] 45 (0, 0))], [pt p0 (.cells #[.pointer (some ⟨s0, 0, none⟩), v0, v1] 108 (0, 0)), slw 9 1 v0 j5_0.w.length (fl sc j5_0.w), slc 3 1 v1 j5_0.terms.length (fl ic j5_0.terms), stAt s0 x53.1, gl, F, pt b3 (.cells #[.int .i64 x2, .int .i64 x50, .int .i64 j5_3, .int .i64 j5_2, .int .i64 j5_1, .int .u64 j4_2, .string j4_3] 45 (0, 0))]]) rfl rfl rfl ⟨(fun g52 => SO.at (SO.val (PO.move rfl) rfl) rfl rfl), (fun g52 => SO.at (SO.val (PO.nilCheck rfl) rfl) rfl rfl), (fun g52 => SO.at (SO.val (PO.fieldAddr rfl Tryz.runUnderlying108 rfl Tryz.sizeOf23 rfl) rfl) rfl rfl), (fun g52 => SO.at (SO.val (PO.load 0 rfl Tryz.isAgg23 rfl rfl) rfl) rfl rfl), (fun g52 => SO.at (SO.val (PO.loadAgg 6 rfl Tryz.isAgg45 Tryz.sizeOf45 rfl rfl rfl) rfl) rfl rfl), (fun g52 => SO.eff (EO.call1 3 _ Tryz.call31 rfl rfl tx54 rfl) rfl fun _ _ ⟨e1, e2⟩ => ⟨g52, fun _ => by rw [e1]; rfl, e2.trans rfl, (AgreeM_refl _ _ rfl)⟩), (fun g52 => SO.at (SO.val (PO.move rfl) rfl) rfl rfl), (fun g52 => SO.at (SO.val (PO.extract rfl rfl) rfl) rfl rfl), (fun g52 => SO.at (SO.val (PO.extract rfl rfl) rfl) rfl rfl), (fun g52 => SO.at (SO.val (PO.assign rfl) rfl) rfl rfl), (fun g52 => SO.at (SO.val (PO.assign rfl) rfl) rfl rfl), trivial⟩ (fun g52 => [pt p0 (.cells #[.pointer (some ⟨s0, 0, none⟩), v0, v1] 108 (0, 0)), slw 9 1 v0 j5_0.w.length (fl sc j5_0.w), slc 3 1 v1 j5_0.terms.length (fl ic j5_0.terms), stAt s0 x53.1, gl, F, pt b3 (.cells #[.int .i64 x2, .int .i64 x50, .int .i64 j5_3, .int .i64 j5_2, .int .i64 j5_1, .int .u64 j4_2, .string j4_3] 45 (0, 0))]) (fun _ => rfl) (fun g52 => [(138, .pointer (some ⟨p0, 0, none⟩)), (139, .pointer (some ⟨p0, 0, none⟩)), (140, .pointer (some ⟨p0, 0, none⟩)), (141, .pointer (some ⟨s0, 0, none⟩)), (142, .agg #[.int .i64 x2, .int .i64 x50, .int .i64 j5_3, .int .i64 j5_2, .int .i64 j5_1, .int .u64 j4_2, .string j4_3]), (143, .tuple #[.int .i64 x53.2.1, .int .i64 x53.2.2]), (137, .tuple #[.int .i64 x53.2.1, .int .i64 x53.2.2]), (144, .int .i64 x53.2.1), (145, .int .i64 x53.2.2), (8, .int .i64 x53.2.1), (9, .int .i64 x53.2.2), (0, .pointer (some ⟨p0, 0, none⟩)), (3, .pointer (some ⟨b3, 0, none⟩))]) (fun _ => rfl) (fun g52 => ?_)
                  refine WP.seq ?_
                  refine WP.seq ?_
                  refine WP.region ?_
                  refine WO.val (PO.move rfl) rfl ?_
                  refine WO.val (PO.neq rfl rfl) rfl ?_
                  refine WO.nil ?_
                  refine WP.cond rfl (fun h55 => ?_) (fun h55 => ?_)
                  · replace hs := cond_t h55 hs
                    refine WP.region ?_
                    refine WO.val (PO.move rfl) rfl ?_
                    refine WO.val (PO.build (v := .agg #[.int .i64 x53.2.2]) rfl (fun w => by simp [Instr.build, Instr.fill, Value.cells, addr_add', Tryz.zeroValue105, Tryz.runUnderlying105, Tryz.sizeOf28])) rfl ?_
                    refine WO.val (PO.makeIface rfl Tryz.runUnderlying105 rfl) rfl ?_
                    obtain rfl := Option.some.inj hs
                    refine WO.step (SO.of rfl (EO.panic rfl ⟨x53.2.2, _, rfl, rfl, fun _ s_ => Sat.out (B := [gl]) [4, 5] rfl s_⟩)) rfl ?_
                    rintro _ _ h_
                    exact h_.elim
                  · replace hs := cond_f h55 hs
                    refine WP.skip ?_
                    refine WP.seq ?_
                    refine WP.region ?_
                    refine WO.val (PO.move rfl) rfl ?_
                    refine WO.val (PO.assign rfl) rfl ?_
                    refine WO.nil ?_
                    refine WP.ret ?_
                    obtain rfl := Option.some.inj hs
                    exact ⟨_, (), _, _, rfl, Res.one (RV.tmp rfl), rfl, fun _ s => Sat.out [0, 1, 2] rfl ((fun _ s => rdAt_close (u := (⟨j5_0.w, j5_0.terms, x53.1⟩ : Rd)) s) _ s)⟩
              · replace hs := cond_f h48 hs
                refine WP.skip ?_
                refine WP.seq ?_
                refine WP.seq ?_
                refine WP.openRd (fun v0 v1 => ?_)
                refine WP.region ?_
                refine WO.val (PO.move rfl) rfl ?_
                refine WO.val (PO.nilCheck rfl) rfl ?_
                refine WO.val (PO.fieldAddr rfl Tryz.runUnderlying108 rfl Tryz.sizeOf41 rfl) rfl ?_
                refine WO.val (PO.load 0 rfl Tryz.isAgg41 rfl rfl) rfl ?_
                refine WO.val (PO.lenW 1 rfl Tryz.runUnderlying41 rfl) rfl ?_
                refine WO.val (PO.gtr rfl rfl) rfl ?_
                refine WO.nil ?_
                refine WP.cond rfl (fun h56 => ?_) (fun h56 => ?_)
                · replace hs := cond_t h56 hs
                  refine WP.region ?_
                  refine WO.val (PO.build (v := .agg #[.int .i64 3]) rfl (fun w => by simp [Instr.build, Instr.fill, Value.cells, addr_add', Tryz.zeroValue105, Tryz.runUnderlying105, Tryz.sizeOf28])) rfl ?_
                  refine WO.val (PO.makeIface rfl Tryz.runUnderlying105 rfl) rfl ?_
                  obtain rfl := Option.some.inj hs
                  refine WO.step (SO.of rfl (EO.panic rfl ⟨3, _, rfl, rfl, fun _ s_ => Sat.out (B := [gl]) [4, 5] rfl s_⟩)) rfl ?_
                  rintro _ _ h_
                  exact h_.elim
                · replace hs := cond_f h56 hs
                  refine WP.skip ?_
                  refine WP.seq ?_
                  obtain ⟨x58, hx58, hs⟩ := bind_elim hs
                  have tx59 := t_St_Make (p0 := s0) hx58
                  refine WP.draw (γ := Unit) Tryz.mixedRdr [some 138, some 139, some 140, some 141, some 142, some 143, some 137, some 144, some 145, some 8, some 9] rfl [(3, .pointer (some ⟨b3, 0, none⟩)), (0, .pointer (some ⟨p0, 0, none⟩))] ⟨rfl, rfl, trivial⟩ (fun g57 => [.pointer (some ⟨p0, 0, none⟩), .pointer (some ⟨p0, 0, none⟩), .pointer (some ⟨p0, 0, none⟩), .pointer (some ⟨s0, 0, none⟩), .agg #[.int .i64 x2, .int .i64 j4_1, .int .i64 j5_3, .int .i64 j5_2, .int .i64 j5_1, .int .u64 j4_2, .string j4_3], .tuple #[.int .i64 x58.2.1, .int .i64 x58.2.2], .tuple #[.int .i64 x58.2.1, .int .i64 x58.2.2], .int .i64 x58.2.1, .int .i64 x58.2.2, .int .i64 x58.2.1, .int .i64 x58.2.2]) [⟨[], 0, 0, false⟩, ⟨[0], 0, 0, false⟩, ⟨[1], 0, 0, false⟩, ⟨[2], 0, 0, false⟩, ⟨[], 0, 0, false⟩, ⟨[3, 4], 0, 0, true⟩, ⟨[5], 1, 0, false⟩, ⟨[6], 1, 0, false⟩, ⟨[6], 1, 0, false⟩, ⟨[7, 7], 1, 0, false⟩, ⟨[8, 8], 1, 0, false⟩] [5] (fun g57 => [[pt p0 (.cells #[.pointer (some ⟨s0, 0, none⟩), v0, v1] 108 (0, 0)), slw 9 1 v0 j5_0.w.length (fl sc j5_0.w), slc 3 1 v1 j5_0.terms.length (fl ic j5_0.terms), stAt s0 j5_0.st, gl, F, pt b3 (.cells #[.int .i64 x2, .int .i64 j4_1, .int .i64 j5_3, .int .i64 j5_2, .int .i64 j5_1, .int .u64 j4_2, .string j4_3] 45 (0, 0))], [pt p0 (.cells #[.pointer (some ⟨s0, 0, none⟩), v0, v1] 108 (0, 0)), slw 9 1 v0 j5_0.w.length (fl sc j5_0.w), slc 3 1 v1 j5_0.terms.length (fl ic j5_0.terms), stAt s0 x58.1, gl, F, pt b3 (.cells #[.int .i64 x2, .int .i64 j4_1, .int .i64 j5_3, .int .i64 j5_2, .int .i64 j5_1, .int .u64 j4_2, .string j4_3] 45 (0, 0))]]) rfl rfl rfl ⟨(fun g57 => SO.at (SO.val (PO.move rfl) rfl) rfl rfl), (fun g57 => SO.at (SO.val (PO.nilCheck rfl) rfl) rfl rfl), (fun g57 => SO.at (SO.val (PO.fieldAddr rfl Tryz.runUnderlying108 rfl Tryz.sizeOf23 rfl) rfl) rfl rfl), (fun g57 => SO.at (SO.val (PO.load 0 rfl Tryz.isAgg23 rfl rfl) rfl) rfl rfl), (fun g57 => SO.at (SO.val (PO.loadAgg 6 rfl Tryz.isAgg45 Tryz.sizeOf45 rfl rfl rfl) rfl) rfl rfl), (fun g57 => SO.eff (EO.call1 3 _ Tryz.call31 rfl rfl tx59 rfl) rfl fun _ _ ⟨e1, e2⟩ => ⟨g57, fun _ => by rw [e1]; rfl, e2.trans rfl, (AgreeM_refl _ _ rfl)⟩), (fun g57 => SO.at (SO.val (PO.move rfl) rfl) rfl rfl), (fun g57 => SO.at (SO.val (PO.extract rfl rfl) rfl) rfl rfl), (fun g57 => SO.at (SO.val (PO.extract rfl rfl) rfl) rfl rfl), (fun g57 => SO.at (SO.val (PO.assign rfl) rfl) rfl rfl), (fun g57 => SO.at (SO.val (PO.assign rfl) rfl) rfl rfl), trivial⟩ (fun g57 => [pt p0 (.cells #[.pointer (some ⟨s0, 0, none⟩), v0, v1] 108 (0, 0)), slw 9 1 v0 j5_0.w.length (fl sc j5_0.w), slc 3 1 v1 j5_0.terms.length (fl ic j5_0.terms), stAt s0 x58.1, gl, F, pt b3 (.cells #[.int .i64 x2, .int .i64 j4_1, .int .i64 j5_3, .int .i64 j5_2, .int .i64 j5_1, .int .u64 j4_2, .string j4_3] 45 (0, 0))]) (fun _ => rfl) (fun g57 => [(138, .pointer (some ⟨p0, 0, none⟩)), (139, .pointer (some ⟨p0, 0, none⟩)), (140, .pointer (some ⟨p0, 0, none⟩)), (141, .pointer (some ⟨s0, 0, none⟩)), (142, .agg #[.int .i64 x2, .int .i64 j4_1, .int .i64 j5_3, .int .i64 j5_2, .int .i64 j5_1, .int .u64 j4_2, .string j4_3]), (143, .tuple #[.int .i64 x58.2.1, .int .i64 x58.2.2]), (137, .tuple #[.int .i64 x58.2.1, .int .i64 x58.2.2]), (144, .int .i64 x58.2.1), (145, .int .i64 x58.2.2), (8, .int .i64 x58.2.1), (9, .int .i64 x58.2.2), (3, .pointer (some ⟨b3, 0, none⟩)), (0, .pointer (some ⟨p0, 0, none⟩))]) (fun _ => rfl) (fun g57 => ?_)
                  refine WP.seq ?_
                  refine WP.seq ?_
                  refine WP.region ?_
                  refine WO.val (PO.move rfl) rfl ?_
                  refine WO.val (PO.neq rfl rfl) rfl ?_
                  refine WO.nil ?_
                  refine WP.cond rfl (fun h60 => ?_) (fun h60 => ?_)
                  · replace hs := cond_t h60 hs
                    refine WP.region ?_
                    refine WO.val (PO.move rfl) rfl ?_
                    refine WO.val (PO.build (v := .agg #[.int .i64 x58.2.2]) rfl (fun w => by simp [Instr.build, Instr.fill, Value.cells, addr_add', Tryz.zeroValue105, Tryz.runUnderlying105, Tryz.sizeOf28])) rfl ?_
                    refine WO.val (PO.makeIface rfl Tryz.runUnderlying105 rfl) rfl ?_
                    obtain rfl := Option.some.inj hs
                    refine WO.step (SO.of rfl (EO.panic rfl ⟨x58.2.2, _, rfl, rfl, fun _ s_ => Sat.out (B := [gl]) [4, 5] rfl s_⟩)) rfl ?_
                    rintro _ _ h_
                    exact h_.elim
                  · replace hs := cond_f h60 hs
                    refine WP.skip ?_
                    refine WP.seq ?_
                    refine WP.region ?_
                    refine WO.val (PO.move rfl) rfl ?_
                    refine WO.val (PO.assign rfl) rfl ?_
                    refine WO.nil ?_
                    refine WP.ret ?_
                    obtain rfl := Option.some.inj hs
                    exact ⟨_, (), _, _, rfl, Res.one (RV.tmp rfl), rfl, fun _ s => Sat.out [0, 1, 2] rfl ((fun _ s => rdAt_close (u := (⟨j5_0.w, j5_0.terms, x58.1⟩ : Rd)) s) _ s)⟩
attribute [irreducible] s_Rd_node

end Go.Proofs.YtlnionilhagenaaGreatDoor
