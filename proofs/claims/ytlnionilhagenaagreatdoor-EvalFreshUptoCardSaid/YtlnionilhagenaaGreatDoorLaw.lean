/- Printed by gen.py (my own program): Lean functions with the answers of the Go functions, and the proofs that the code comes to them. -/
import Derived.Test.YtlnionilhagenaaGreatDoorEv
namespace Go.Proofs.YtlnionilhagenaaGreatDoor
open Go.RowKit
set_option linter.all false
set_option maxRecDepth 100000
set_option maxHeartbeats 4000000
theorem Tryz.mixedLaw : Tryz.prog.follows .mixedOrders = true := by kernel_rfl

/- cadence/cadencelaw08.no -/
def s_L_no (e : Int) : Int :=
  e
theorem t_L_no {e : Int} {r : Int}
    (hs : s_L_no e = r) :
    TriV Tryz.prog 11 [.int .i64 e] [] (.int .i64 r) [] := by
  unfold s_L_no at hs
  refine TriL.of Tryz.func11 rfl Tryz.ntmps11 Tryz.results11 rfl (fun w0 F => ?_)
  refine WP.seq ?_
  refine WP.region ?_
  refine WO.val (PO.assign rfl) rfl ?_
  refine WO.nil ?_
  refine WP.seq ?_
  refine WP.region ?_
  refine WO.val (PO.move rfl) rfl ?_
  refine WO.val (PO.assign rfl) rfl ?_
  refine WO.nil ?_
  refine WP.ret ?_
  cases hs
  exact ⟨_, _, _, Res.one (RV.tmp rfl), ⟨rfl, rfl⟩, fun _ s => s⟩
attribute [irreducible] s_L_no

/- cadence/cadencelaw08.sameVars -/
def s_L_sameVars_l0 (a : List Vl) (b : List Vl) : Nat → Int → Option (Bool)
  | 0, _ => none
  | c2_k + 1, c2_0 =>
    cond (decide (c2_0 < (a.length : Int)))
      ((getI a c2_0).bind fun x5 =>
      (getI b c2_0).bind fun x6 =>
      cond (!decide (x5 = x6))
        (some false)
        (s_L_sameVars_l0 a b c2_k (IntKind.i64.wrap (c2_0 + 1))))
      (some true)
def s_L_sameVars (k : Nat) (a : List Vl) (b : List Vl) : Option (Bool) :=
  cond ((a.length : Int) != (b.length : Int))
    (some false)
    (s_L_sameVars_l0 a b k 0)
theorem t_L_sameVars {k : Nat} {v_0 : Value} {v_1 : Value} {a : List Vl} {b : List Vl} {r : Bool}
    (hs : s_L_sameVars k a b = some r) :
    TriX Tryz.prog 12 [v_0, v_1] [slc 35 3 v_0 a.length (fl Vl.cells a), slc 35 3 v_1 b.length (fl Vl.cells b)] (.ok r) faultV (fun (a_ : Bool) (_ : Unit) => .bool a_) (fun a_ _ => [slc 35 3 v_0 a.length (fl Vl.cells a), slc 35 3 v_1 b.length (fl Vl.cells b)]) := by
  unfold s_L_sameVars at hs
  refine TriX.of Tryz.func12 rfl Tryz.ntmps12 Tryz.results12 rfl (fun w0 F => ?_)
  refine WP.seq ?_
  refine WP.region ?_
  refine WO.val (PO.assign rfl) rfl ?_
  refine WO.nil ?_
  refine WP.seq ?_
  refine WP.seq ?_
  refine WP.region ?_
  refine WO.val (PO.move rfl) rfl ?_
  refine WO.val (PO.lenL 0 rfl Tryz.runUnderlying27 rfl) rfl ?_
  refine WO.val (PO.move rfl) rfl ?_
  refine WO.val (PO.lenL 1 rfl Tryz.runUnderlying27 rfl) rfl ?_
  refine WO.val (PO.neq rfl rfl) rfl ?_
  refine WO.nil ?_
  refine WP.cond rfl (fun h1 => ?_) (fun h1 => ?_)
  · replace hs := cond_t h1 hs
    refine WP.seq ?_
    refine WP.region ?_
    refine WO.val (PO.assign rfl) rfl ?_
    refine WO.nil ?_
    refine WP.ret ?_
    obtain rfl := Option.some.inj hs
    exact ⟨_, (), _, _, rfl, Res.one (RV.tmp rfl), rfl, fun _ s => Sat.out [0, 1, 2] rfl s⟩
  · replace hs := cond_f h1 hs
    refine WP.skip ?_
    refine WP.seq ?_
    refine WP.seq ?_
    refine WP.region ?_
    refine WO.val (PO.assign rfl) rfl ?_
    refine WO.nil ?_
    refine WP.block ?_
    refine WP.loopG (fun c2_k f_ L_ => ∃ (c2_0 : Int), Holds f_ [(0, v_0), (1, v_1), (4, .bool false), (5, .int .i64 c2_0)] ∧ L_ = [slc 35 3 v_0 a.length (fl Vl.cells a), slc 35 3 v_1 b.length (fl Vl.cells b), F] ∧ s_L_sameVars_l0 a b c2_k c2_0 = some r) k ⟨0, ⟨rfl, rfl, rfl, rfl, trivial⟩, rfl, hs⟩ ?_
    rintro c2_k f_ L_ ⟨c2_0, hf_, rfl, hs⟩
    refine WP.keep [(0, v_0), (1, v_1), (4, .bool false), (5, .int .i64 c2_0)] hf_ ?_
    cases c2_k with
    | zero => exact nomatch (show none = some r from hs)
    | succ c2_k =>
      rw [s_L_sameVars_l0.eq_2] at hs
      refine WP.seq ?_
      refine WP.seq ?_
      refine WP.region ?_
      refine WO.val (PO.move rfl) rfl ?_
      refine WO.val (PO.move rfl) rfl ?_
      refine WO.val (PO.lenL 0 rfl Tryz.runUnderlying27 rfl) rfl ?_
      refine WO.val (PO.lss rfl rfl) rfl ?_
      refine WO.nil ?_
      refine WP.cond rfl (fun h3 => ?_) (fun h3 => ?_)
      · replace hs := cond_t h3 hs
        refine WP.skip ?_
        refine WP.seq ?_
        refine WP.block ?_
        refine WP.seq ?_
        obtain ⟨x5, hx5, hs⟩ := bind_elim hs
        obtain ⟨x6, hx6, hs⟩ := bind_elim hs
        refine WP.draw (γ := Unit) Tryz.mixedLaw [some 17, some 18, some 19, some 20, some 21, some 22, some 23, some 24, some 25] rfl [(0, v_0), (1, v_1), (4, .bool false), (5, .int .i64 c2_0)] ⟨rfl, rfl, rfl, rfl, trivial⟩ (fun g4 => [v_0, .int .i64 c2_0, .pointer (some ⟨blk v_0, c2_0.toNat * 3 + 0, none⟩), .agg #[.string x5.Name, .int .i64 x5.W, .int .u64 x5.Num], v_1, .int .i64 c2_0, .pointer (some ⟨blk v_1, c2_0.toNat * 3 + 0, none⟩), .agg #[.string x6.Name, .int .i64 x6.W, .int .u64 x6.Num], .bool (!decide (x5 = x6))]) [⟨[], 0, 0, false⟩, ⟨[], 0, 0, false⟩, ⟨[0, 1], 0, 0, false⟩, ⟨[2], 0, 0, false⟩, ⟨[], 0, 0, false⟩, ⟨[], 0, 0, false⟩, ⟨[4, 5], 0, 0, false⟩, ⟨[6], 0, 0, false⟩, ⟨[3, 7], 0, 0, false⟩] [] (fun g4 => [[slc 35 3 v_0 a.length (fl Vl.cells a), slc 35 3 v_1 b.length (fl Vl.cells b), F]]) rfl rfl rfl ⟨(fun g4 => SO.at (SO.val (PO.move rfl) rfl) rfl rfl), (fun g4 => SO.at (SO.val (PO.move rfl) rfl) rfl rfl), (fun g4 => SO.at (SO.val (PO.idxL 0 rfl rfl Tryz.runUnderlying27 Tryz.sizeOf35 rfl hx5) rfl) rfl rfl), (fun g4 => SO.at (SO.val (PO.loadLAgg (c := Vl.cells) (k := 3) 0 (fun _ => rfl) rfl Tryz.isAgg35 Tryz.sizeOf35 rfl hx5 rfl) rfl) rfl rfl), (fun g4 => SO.at (SO.val (PO.move rfl) rfl) rfl rfl), (fun g4 => SO.at (SO.val (PO.move rfl) rfl) rfl rfl), (fun g4 => SO.at (SO.val (PO.idxL 1 rfl rfl Tryz.runUnderlying27 Tryz.sizeOf35 rfl hx6) rfl) rfl rfl), (fun g4 => SO.at (SO.val (PO.loadLAgg (c := Vl.cells) (k := 3) 1 (fun _ => rfl) rfl Tryz.isAgg35 Tryz.sizeOf35 rfl hx6 rfl) rfl) rfl rfl), (fun g4 => SO.at (SO.val (PO.neqK (kv := Vl.val) (a := x5) (b := x6) rfl rfl rfl rfl (by kernel_rfl) (vl_eq _ _)) rfl) rfl rfl), trivial⟩ (fun g4 => [slc 35 3 v_0 a.length (fl Vl.cells a), slc 35 3 v_1 b.length (fl Vl.cells b), F]) (fun _ => rfl) (fun g4 => [(17, v_0), (18, .int .i64 c2_0), (19, .pointer (some ⟨blk v_0, c2_0.toNat * 3 + 0, none⟩)), (20, .agg #[.string x5.Name, .int .i64 x5.W, .int .u64 x5.Num]), (21, v_1), (22, .int .i64 c2_0), (23, .pointer (some ⟨blk v_1, c2_0.toNat * 3 + 0, none⟩)), (24, .agg #[.string x6.Name, .int .i64 x6.W, .int .u64 x6.Num]), (25, .bool (!decide (x5 = x6))), (0, v_0), (1, v_1), (4, .bool false), (5, .int .i64 c2_0)]) (fun _ => rfl) (fun g4 => ?_)
        refine WP.cond rfl (fun h7 => ?_) (fun h7 => ?_)
        · replace hs := cond_t h7 hs
          refine WP.seq ?_
          refine WP.region ?_
          refine WO.val (PO.assign rfl) rfl ?_
          refine WO.nil ?_
          refine WP.ret ?_
          obtain rfl := Option.some.inj hs
          exact ⟨_, (), _, _, rfl, Res.one (RV.tmp rfl), rfl, fun _ s => Sat.out [0, 1, 2] rfl s⟩
        · replace hs := cond_f h7 hs
          refine WP.skip ?_
          refine WP.region ?_
          refine WO.val (PO.move rfl) rfl ?_
          refine WO.val (PO.add rfl rfl) rfl ?_
          refine WO.val (PO.assign rfl) rfl ?_
          refine WO.nil ?_
          exact ⟨c2_k, _, Nat.lt_succ_self _, ⟨(IntKind.i64.wrap (c2_0 + 1)), ⟨rfl, rfl, rfl, rfl, trivial⟩, rfl, hs⟩, fun _ s => s.pre⟩
      · replace hs := cond_f h3 hs
        refine WP.exit (inX.hit ?_)
        refine WP.seq ?_
        refine WP.region ?_
        refine WO.val (PO.assign rfl) rfl ?_
        refine WO.nil ?_
        refine WP.ret ?_
        obtain rfl := Option.some.inj hs
        exact ⟨_, (), _, _, rfl, Res.one (RV.tmp rfl), rfl, fun _ s => Sat.out [0, 1, 2] rfl s⟩
attribute [irreducible] s_L_sameVars

/- cadence/cadencelaw08.sameInts -/
def s_L_sameInts_l0 (a : List Int) (b : List Int) : Nat → Int → Option (Bool)
  | 0, _ => none
  | c2_k + 1, c2_0 =>
    cond (decide (c2_0 < (a.length : Int)))
      ((getI a c2_0).bind fun x5 =>
      (getI b c2_0).bind fun x6 =>
      cond (x5 != x6)
        (some false)
        (s_L_sameInts_l0 a b c2_k (IntKind.i64.wrap (c2_0 + 1))))
      (some true)
def s_L_sameInts (k : Nat) (a : List Int) (b : List Int) : Option (Bool) :=
  cond ((a.length : Int) != (b.length : Int))
    (some false)
    (s_L_sameInts_l0 a b k 0)
theorem t_L_sameInts {k : Nat} {v_0 : Value} {v_1 : Value} {a : List Int} {b : List Int} {r : Bool}
    (hs : s_L_sameInts k a b = some r) :
    TriX Tryz.prog 13 [v_0, v_1] [slc 3 1 v_0 a.length (fl ic a), slc 3 1 v_1 b.length (fl ic b)] (.ok r) faultV (fun (a_ : Bool) (_ : Unit) => .bool a_) (fun a_ _ => [slc 3 1 v_0 a.length (fl ic a), slc 3 1 v_1 b.length (fl ic b)]) := by
  unfold s_L_sameInts at hs
  refine TriX.of Tryz.func13 rfl Tryz.ntmps13 Tryz.results13 rfl (fun w0 F => ?_)
  refine WP.seq ?_
  refine WP.region ?_
  refine WO.val (PO.assign rfl) rfl ?_
  refine WO.nil ?_
  refine WP.seq ?_
  refine WP.seq ?_
  refine WP.region ?_
  refine WO.val (PO.move rfl) rfl ?_
  refine WO.val (PO.lenL 0 rfl Tryz.runUnderlying24 rfl) rfl ?_
  refine WO.val (PO.move rfl) rfl ?_
  refine WO.val (PO.lenL 1 rfl Tryz.runUnderlying24 rfl) rfl ?_
  refine WO.val (PO.neq rfl rfl) rfl ?_
  refine WO.nil ?_
  refine WP.cond rfl (fun h1 => ?_) (fun h1 => ?_)
  · replace hs := cond_t h1 hs
    refine WP.seq ?_
    refine WP.region ?_
    refine WO.val (PO.assign rfl) rfl ?_
    refine WO.nil ?_
    refine WP.ret ?_
    obtain rfl := Option.some.inj hs
    exact ⟨_, (), _, _, rfl, Res.one (RV.tmp rfl), rfl, fun _ s => Sat.out [0, 1, 2] rfl s⟩
  · replace hs := cond_f h1 hs
    refine WP.skip ?_
    refine WP.seq ?_
    refine WP.seq ?_
    refine WP.region ?_
    refine WO.val (PO.assign rfl) rfl ?_
    refine WO.nil ?_
    refine WP.block ?_
    refine WP.loopG (fun c2_k f_ L_ => ∃ (c2_0 : Int), Holds f_ [(0, v_0), (1, v_1), (4, .bool false), (5, .int .i64 c2_0)] ∧ L_ = [slc 3 1 v_0 a.length (fl ic a), slc 3 1 v_1 b.length (fl ic b), F] ∧ s_L_sameInts_l0 a b c2_k c2_0 = some r) k ⟨0, ⟨rfl, rfl, rfl, rfl, trivial⟩, rfl, hs⟩ ?_
    rintro c2_k f_ L_ ⟨c2_0, hf_, rfl, hs⟩
    refine WP.keep [(0, v_0), (1, v_1), (4, .bool false), (5, .int .i64 c2_0)] hf_ ?_
    cases c2_k with
    | zero => exact nomatch (show none = some r from hs)
    | succ c2_k =>
      rw [s_L_sameInts_l0.eq_2] at hs
      refine WP.seq ?_
      refine WP.seq ?_
      refine WP.region ?_
      refine WO.val (PO.move rfl) rfl ?_
      refine WO.val (PO.move rfl) rfl ?_
      refine WO.val (PO.lenL 0 rfl Tryz.runUnderlying24 rfl) rfl ?_
      refine WO.val (PO.lss rfl rfl) rfl ?_
      refine WO.nil ?_
      refine WP.cond rfl (fun h3 => ?_) (fun h3 => ?_)
      · replace hs := cond_t h3 hs
        refine WP.skip ?_
        refine WP.seq ?_
        refine WP.block ?_
        refine WP.seq ?_
        obtain ⟨x5, hx5, hs⟩ := bind_elim hs
        obtain ⟨x6, hx6, hs⟩ := bind_elim hs
        refine WP.draw (γ := Unit) Tryz.mixedLaw [some 17, some 18, some 19, some 20, some 21, some 22, some 23, some 24, some 25] rfl [(0, v_0), (1, v_1), (4, .bool false), (5, .int .i64 c2_0)] ⟨rfl, rfl, rfl, rfl, trivial⟩ (fun g4 => [v_0, .int .i64 c2_0, .pointer (some ⟨blk v_0, c2_0.toNat * 1 + 0, none⟩), .int .i64 x5, v_1, .int .i64 c2_0, .pointer (some ⟨blk v_1, c2_0.toNat * 1 + 0, none⟩), .int .i64 x6, .bool (x5 != x6)]) [⟨[], 0, 0, false⟩, ⟨[], 0, 0, false⟩, ⟨[0, 1], 0, 0, false⟩, ⟨[2], 0, 0, false⟩, ⟨[], 0, 0, false⟩, ⟨[], 0, 0, false⟩, ⟨[4, 5], 0, 0, false⟩, ⟨[6], 0, 0, false⟩, ⟨[3, 7], 0, 0, false⟩] [] (fun g4 => [[slc 3 1 v_0 a.length (fl ic a), slc 3 1 v_1 b.length (fl ic b), F]]) rfl rfl rfl ⟨(fun g4 => SO.at (SO.val (PO.move rfl) rfl) rfl rfl), (fun g4 => SO.at (SO.val (PO.move rfl) rfl) rfl rfl), (fun g4 => SO.at (SO.val (PO.idxL 0 rfl rfl Tryz.runUnderlying24 Tryz.sizeOf3 rfl hx5) rfl) rfl rfl), (fun g4 => SO.at (SO.val (PO.loadL 0 rfl Tryz.isAgg3 rfl (fl_at (c := ic) (k := 1) (j := 0) (fun _ => rfl) hx5 rfl)) rfl) rfl rfl), (fun g4 => SO.at (SO.val (PO.move rfl) rfl) rfl rfl), (fun g4 => SO.at (SO.val (PO.move rfl) rfl) rfl rfl), (fun g4 => SO.at (SO.val (PO.idxL 1 rfl rfl Tryz.runUnderlying24 Tryz.sizeOf3 rfl hx6) rfl) rfl rfl), (fun g4 => SO.at (SO.val (PO.loadL 1 rfl Tryz.isAgg3 rfl (fl_at (c := ic) (k := 1) (j := 0) (fun _ => rfl) hx6 rfl)) rfl) rfl rfl), (fun g4 => SO.at (SO.val (PO.neq rfl rfl) rfl) rfl rfl), trivial⟩ (fun g4 => [slc 3 1 v_0 a.length (fl ic a), slc 3 1 v_1 b.length (fl ic b), F]) (fun _ => rfl) (fun g4 => [(17, v_0), (18, .int .i64 c2_0), (19, .pointer (some ⟨blk v_0, c2_0.toNat * 1 + 0, none⟩)), (20, .int .i64 x5), (21, v_1), (22, .int .i64 c2_0), (23, .pointer (some ⟨blk v_1, c2_0.toNat * 1 + 0, none⟩)), (24, .int .i64 x6), (25, .bool (x5 != x6)), (0, v_0), (1, v_1), (4, .bool false), (5, .int .i64 c2_0)]) (fun _ => rfl) (fun g4 => ?_)
        refine WP.cond rfl (fun h7 => ?_) (fun h7 => ?_)
        · replace hs := cond_t h7 hs
          refine WP.seq ?_
          refine WP.region ?_
          refine WO.val (PO.assign rfl) rfl ?_
          refine WO.nil ?_
          refine WP.ret ?_
          obtain rfl := Option.some.inj hs
          exact ⟨_, (), _, _, rfl, Res.one (RV.tmp rfl), rfl, fun _ s => Sat.out [0, 1, 2] rfl s⟩
        · replace hs := cond_f h7 hs
          refine WP.skip ?_
          refine WP.region ?_
          refine WO.val (PO.move rfl) rfl ?_
          refine WO.val (PO.add rfl rfl) rfl ?_
          refine WO.val (PO.assign rfl) rfl ?_
          refine WO.nil ?_
          exact ⟨c2_k, _, Nat.lt_succ_self _, ⟨(IntKind.i64.wrap (c2_0 + 1)), ⟨rfl, rfl, rfl, rfl, trivial⟩, rfl, hs⟩, fun _ s => s.pre⟩
      · replace hs := cond_f h3 hs
        refine WP.exit (inX.hit ?_)
        refine WP.seq ?_
        refine WP.region ?_
        refine WO.val (PO.assign rfl) rfl ?_
        refine WO.nil ?_
        refine WP.ret ?_
        obtain rfl := Option.some.inj hs
        exact ⟨_, (), _, _, rfl, Res.one (RV.tmp rfl), rfl, fun _ s => Sat.out [0, 1, 2] rfl s⟩
attribute [irreducible] s_L_sameInts

/- cadence/cadencelaw08.sameWords -/
def s_L_sameWords_l0 (a : List Int) (b : List Int) : Nat → Int → Option (Bool)
  | 0, _ => none
  | c2_k + 1, c2_0 =>
    cond (decide (c2_0 < (a.length : Int)))
      ((getI a c2_0).bind fun x5 =>
      (getI b c2_0).bind fun x6 =>
      cond (x5 != x6)
        (some false)
        (s_L_sameWords_l0 a b c2_k (IntKind.i64.wrap (c2_0 + 1))))
      (some true)
def s_L_sameWords (k : Nat) (a : List Int) (b : List Int) : Option (Bool) :=
  cond ((a.length : Int) != (b.length : Int))
    (some false)
    (s_L_sameWords_l0 a b k 0)
theorem t_L_sameWords {k : Nat} {v_0 : Value} {v_1 : Value} {a : List Int} {b : List Int} {r : Bool}
    (hs : s_L_sameWords k a b = some r) :
    TriX Tryz.prog 18 [v_0, v_1] [slc 33 1 v_0 a.length (fl uc a), slc 33 1 v_1 b.length (fl uc b)] (.ok r) faultV (fun (a_ : Bool) (_ : Unit) => .bool a_) (fun a_ _ => [slc 33 1 v_0 a.length (fl uc a), slc 33 1 v_1 b.length (fl uc b)]) := by
  unfold s_L_sameWords at hs
  refine TriX.of Tryz.func18 rfl Tryz.ntmps18 Tryz.results18 rfl (fun w0 F => ?_)
  refine WP.seq ?_
  refine WP.region ?_
  refine WO.val (PO.assign rfl) rfl ?_
  refine WO.nil ?_
  refine WP.seq ?_
  refine WP.seq ?_
  refine WP.region ?_
  refine WO.val (PO.move rfl) rfl ?_
  refine WO.val (PO.lenL 0 rfl Tryz.runUnderlying40 rfl) rfl ?_
  refine WO.val (PO.move rfl) rfl ?_
  refine WO.val (PO.lenL 1 rfl Tryz.runUnderlying40 rfl) rfl ?_
  refine WO.val (PO.neq rfl rfl) rfl ?_
  refine WO.nil ?_
  refine WP.cond rfl (fun h1 => ?_) (fun h1 => ?_)
  · replace hs := cond_t h1 hs
    refine WP.seq ?_
    refine WP.region ?_
    refine WO.val (PO.assign rfl) rfl ?_
    refine WO.nil ?_
    refine WP.ret ?_
    obtain rfl := Option.some.inj hs
    exact ⟨_, (), _, _, rfl, Res.one (RV.tmp rfl), rfl, fun _ s => Sat.out [0, 1, 2] rfl s⟩
  · replace hs := cond_f h1 hs
    refine WP.skip ?_
    refine WP.seq ?_
    refine WP.seq ?_
    refine WP.region ?_
    refine WO.val (PO.assign rfl) rfl ?_
    refine WO.nil ?_
    refine WP.block ?_
    refine WP.loopG (fun c2_k f_ L_ => ∃ (c2_0 : Int), Holds f_ [(0, v_0), (1, v_1), (4, .bool false), (5, .int .i64 c2_0)] ∧ L_ = [slc 33 1 v_0 a.length (fl uc a), slc 33 1 v_1 b.length (fl uc b), F] ∧ s_L_sameWords_l0 a b c2_k c2_0 = some r) k ⟨0, ⟨rfl, rfl, rfl, rfl, trivial⟩, rfl, hs⟩ ?_
    rintro c2_k f_ L_ ⟨c2_0, hf_, rfl, hs⟩
    refine WP.keep [(0, v_0), (1, v_1), (4, .bool false), (5, .int .i64 c2_0)] hf_ ?_
    cases c2_k with
    | zero => exact nomatch (show none = some r from hs)
    | succ c2_k =>
      rw [s_L_sameWords_l0.eq_2] at hs
      refine WP.seq ?_
      refine WP.seq ?_
      refine WP.region ?_
      refine WO.val (PO.move rfl) rfl ?_
      refine WO.val (PO.move rfl) rfl ?_
      refine WO.val (PO.lenL 0 rfl Tryz.runUnderlying40 rfl) rfl ?_
      refine WO.val (PO.lss rfl rfl) rfl ?_
      refine WO.nil ?_
      refine WP.cond rfl (fun h3 => ?_) (fun h3 => ?_)
      · replace hs := cond_t h3 hs
        refine WP.skip ?_
        refine WP.seq ?_
        refine WP.block ?_
        refine WP.seq ?_
        obtain ⟨x5, hx5, hs⟩ := bind_elim hs
        obtain ⟨x6, hx6, hs⟩ := bind_elim hs
        refine WP.draw (γ := Unit) Tryz.mixedLaw [some 17, some 18, some 19, some 20, some 21, some 22, some 23, some 24, some 25] rfl [(0, v_0), (1, v_1), (4, .bool false), (5, .int .i64 c2_0)] ⟨rfl, rfl, rfl, rfl, trivial⟩ (fun g4 => [v_0, .int .i64 c2_0, .pointer (some ⟨blk v_0, c2_0.toNat * 1 + 0, none⟩), .int .u64 x5, v_1, .int .i64 c2_0, .pointer (some ⟨blk v_1, c2_0.toNat * 1 + 0, none⟩), .int .u64 x6, .bool (x5 != x6)]) [⟨[], 0, 0, false⟩, ⟨[], 0, 0, false⟩, ⟨[0, 1], 0, 0, false⟩, ⟨[2], 0, 0, false⟩, ⟨[], 0, 0, false⟩, ⟨[], 0, 0, false⟩, ⟨[4, 5], 0, 0, false⟩, ⟨[6], 0, 0, false⟩, ⟨[3, 7], 0, 0, false⟩] [] (fun g4 => [[slc 33 1 v_0 a.length (fl uc a), slc 33 1 v_1 b.length (fl uc b), F]]) rfl rfl rfl ⟨(fun g4 => SO.at (SO.val (PO.move rfl) rfl) rfl rfl), (fun g4 => SO.at (SO.val (PO.move rfl) rfl) rfl rfl), (fun g4 => SO.at (SO.val (PO.idxL 0 rfl rfl Tryz.runUnderlying40 Tryz.sizeOf33 rfl hx5) rfl) rfl rfl), (fun g4 => SO.at (SO.val (PO.loadL 0 rfl Tryz.isAgg33 rfl (fl_at (c := uc) (k := 1) (j := 0) (fun _ => rfl) hx5 rfl)) rfl) rfl rfl), (fun g4 => SO.at (SO.val (PO.move rfl) rfl) rfl rfl), (fun g4 => SO.at (SO.val (PO.move rfl) rfl) rfl rfl), (fun g4 => SO.at (SO.val (PO.idxL 1 rfl rfl Tryz.runUnderlying40 Tryz.sizeOf33 rfl hx6) rfl) rfl rfl), (fun g4 => SO.at (SO.val (PO.loadL 1 rfl Tryz.isAgg33 rfl (fl_at (c := uc) (k := 1) (j := 0) (fun _ => rfl) hx6 rfl)) rfl) rfl rfl), (fun g4 => SO.at (SO.val (PO.neq rfl rfl) rfl) rfl rfl), trivial⟩ (fun g4 => [slc 33 1 v_0 a.length (fl uc a), slc 33 1 v_1 b.length (fl uc b), F]) (fun _ => rfl) (fun g4 => [(17, v_0), (18, .int .i64 c2_0), (19, .pointer (some ⟨blk v_0, c2_0.toNat * 1 + 0, none⟩)), (20, .int .u64 x5), (21, v_1), (22, .int .i64 c2_0), (23, .pointer (some ⟨blk v_1, c2_0.toNat * 1 + 0, none⟩)), (24, .int .u64 x6), (25, .bool (x5 != x6)), (0, v_0), (1, v_1), (4, .bool false), (5, .int .i64 c2_0)]) (fun _ => rfl) (fun g4 => ?_)
        refine WP.cond rfl (fun h7 => ?_) (fun h7 => ?_)
        · replace hs := cond_t h7 hs
          refine WP.seq ?_
          refine WP.region ?_
          refine WO.val (PO.assign rfl) rfl ?_
          refine WO.nil ?_
          refine WP.ret ?_
          obtain rfl := Option.some.inj hs
          exact ⟨_, (), _, _, rfl, Res.one (RV.tmp rfl), rfl, fun _ s => Sat.out [0, 1, 2] rfl s⟩
        · replace hs := cond_f h7 hs
          refine WP.skip ?_
          refine WP.region ?_
          refine WO.val (PO.move rfl) rfl ?_
          refine WO.val (PO.add rfl rfl) rfl ?_
          refine WO.val (PO.assign rfl) rfl ?_
          refine WO.nil ?_
          exact ⟨c2_k, _, Nat.lt_succ_self _, ⟨(IntKind.i64.wrap (c2_0 + 1)), ⟨rfl, rfl, rfl, rfl, trivial⟩, rfl, hs⟩, fun _ s => s.pre⟩
      · replace hs := cond_f h3 hs
        refine WP.exit (inX.hit ?_)
        refine WP.seq ?_
        refine WP.region ?_
        refine WO.val (PO.assign rfl) rfl ?_
        refine WO.nil ?_
        refine WP.ret ?_
        obtain rfl := Option.some.inj hs
        exact ⟨_, (), _, _, rfl, Res.one (RV.tmp rfl), rfl, fun _ s => Sat.out [0, 1, 2] rfl s⟩
attribute [irreducible] s_L_sameWords

/- cadence/cadencelaw08.drawn -/
def s_L_drawn_l0 (vars : List Vl) (nums : List Int) : Nat → Int → (List Vl) → Option ((List Vl))
  | 0, _, _ => none
  | c3_k + 1, c3_0, c3_2 =>
    cond (decide (c3_0 < (vars.length : Int)))
      ((getI vars c3_0).bind fun x5 =>
      cond (decide (0 < (nums.length : Int)))
        (if (nums.length : Int) ≠ 0 then ((getI nums (c3_0.tmod (nums.length : Int))).bind fun x9 =>
        cond (decide ((bif (x5.W == 0) then 1 else x5.W) < 64))
          (if (c3_2.length + 1) * 32 ≤ 140737488355328 then (s_L_drawn_l0 vars nums c3_k (IntKind.i64.wrap (c3_0 + 1)) (c3_2 ++ [(⟨x5.Name, x5.W, (bits .and .u64 x9 (IntKind.u64.wrap ((shlI .u64 1 (IntKind.u64.wrap (bif (x5.W == 0) then 1 else x5.W))) - 1)))⟩ : Vl)])) else none)
          (if (c3_2.length + 1) * 32 ≤ 140737488355328 then (s_L_drawn_l0 vars nums c3_k (IntKind.i64.wrap (c3_0 + 1)) (c3_2 ++ [(⟨x5.Name, x5.W, x9⟩ : Vl)])) else none)) else none)
        (cond (decide ((bif (x5.W == 0) then 1 else x5.W) < 64))
          (if (c3_2.length + 1) * 32 ≤ 140737488355328 then (s_L_drawn_l0 vars nums c3_k (IntKind.i64.wrap (c3_0 + 1)) (c3_2 ++ [(⟨x5.Name, x5.W, (bits .and .u64 0 (IntKind.u64.wrap ((shlI .u64 1 (IntKind.u64.wrap (bif (x5.W == 0) then 1 else x5.W))) - 1)))⟩ : Vl)])) else none)
          (if (c3_2.length + 1) * 32 ≤ 140737488355328 then (s_L_drawn_l0 vars nums c3_k (IntKind.i64.wrap (c3_0 + 1)) (c3_2 ++ [(⟨x5.Name, x5.W, 0⟩ : Vl)])) else none)))
      (some c3_2)
def s_L_drawn (k : Nat) (vars : List Vl) (nums : List Int) : Option ((List Vl)) :=
  s_L_drawn_l0 vars nums k 0 ([] : List Vl)
theorem t_L_drawn {k : Nat} {v_0 : Value} {v_1 : Value} {vars : List Vl} {nums : List Int} {r : (List Vl)}
    (hs : s_L_drawn k vars nums = some r) :
    TriX Tryz.prog 16 [v_0, v_1] [slc 35 3 v_0 vars.length (fl Vl.cells vars), slc 33 1 v_1 nums.length (fl uc nums)] (.ok r) faultV (fun (a_ : (List Vl)) (c : Value) => c) (fun a_ c => [slc 35 3 v_0 vars.length (fl Vl.cells vars), slc 33 1 v_1 nums.length (fl uc nums), slc 35 3 c a_.length (fl Vl.cells a_)]) := by
  unfold s_L_drawn at hs
  refine TriX.of Tryz.func16 rfl Tryz.ntmps16 Tryz.results16 rfl (fun w0 F => ?_)
  refine WP.seq ?_
  refine WP.region ?_
  refine WO.heap [slc 35 3 v_0 vars.length (fl Vl.cells vars), slc 33 1 v_1 nums.length (fl uc nums), F, slc 35 3 (nils 1) ([] : List Vl).length (fl Vl.cells ([] : List Vl))] (fun _ s => s.addNil 35 3 1) ?_
  refine WO.val (PO.assign (v := (nils 1)) rfl) rfl ?_
  refine WO.nil ?_
  refine WP.seq ?_
  refine WP.region ?_
  refine WO.heap [slc 35 3 v_0 vars.length (fl Vl.cells vars), slc 33 1 v_1 nums.length (fl uc nums), F, slc 35 3 (nils 1) ([] : List Vl).length (fl Vl.cells ([] : List Vl)), slc 35 3 (nils 2) ([] : List Vl).length (fl Vl.cells ([] : List Vl))] (fun _ s => s.addNil 35 3 2) ?_
  refine WO.val (PO.assign (v := (nils 2)) rfl) rfl ?_
  refine WO.nil ?_
  refine WP.seq ?_
  refine WP.seq ?_
  refine WP.region ?_
  refine WO.val (PO.assign rfl) rfl ?_
  refine WO.nil ?_
  refine WP.block ?_
  refine WP.loopG (fun c3_k f_ L_ => ∃ (c3_0 : Int) (c3_1 : Value) (c3_2 : List Vl), Holds f_ [(0, v_0), (1, v_1), (4, (nils 1)), (5, c3_1), (6, .int .i64 c3_0)] ∧ L_ = [slc 35 3 v_0 vars.length (fl Vl.cells vars), slc 33 1 v_1 nums.length (fl uc nums), F, slc 35 3 (nils 1) ([] : List Vl).length (fl Vl.cells ([] : List Vl)), slc 35 3 c3_1 c3_2.length (fl Vl.cells c3_2)] ∧ s_L_drawn_l0 vars nums c3_k c3_0 c3_2 = some r) k ⟨0, (nils 2), ([] : List Vl), ⟨rfl, rfl, rfl, rfl, rfl, trivial⟩, rfl, hs⟩ ?_
  rintro c3_k f_ L_ ⟨c3_0, c3_1, c3_2, hf_, rfl, hs⟩
  refine WP.keep [(0, v_0), (1, v_1), (4, (nils 1)), (5, c3_1), (6, .int .i64 c3_0)] hf_ ?_
  cases c3_k with
  | zero => exact nomatch (show none = some r from hs)
  | succ c3_k =>
    rw [s_L_drawn_l0.eq_2] at hs
    refine WP.seq ?_
    refine WP.seq ?_
    refine WP.region ?_
    refine WO.val (PO.move rfl) rfl ?_
    refine WO.val (PO.move rfl) rfl ?_
    refine WO.val (PO.lenL 0 rfl Tryz.runUnderlying27 rfl) rfl ?_
    refine WO.val (PO.lss rfl rfl) rfl ?_
    refine WO.nil ?_
    refine WP.cond rfl (fun h4 => ?_) (fun h4 => ?_)
    · replace hs := cond_t h4 hs
      refine WP.skip ?_
      refine WP.seq ?_
      refine WP.block ?_
      refine WP.seq ?_
      refine WP.region ?_
      refine WO.val (PO.move rfl) rfl ?_
      refine WO.val (PO.move rfl) rfl ?_
      obtain ⟨x5, hx5, hs⟩ := bind_elim hs
      refine WO.val (PO.idxL 0 rfl rfl Tryz.runUnderlying27 Tryz.sizeOf35 rfl hx5) rfl ?_
      refine WO.val (PO.loadLAgg (c := Vl.cells) (k := 3) 0 (fun _ => rfl) rfl Tryz.isAgg35 Tryz.sizeOf35 rfl hx5 rfl) rfl ?_
      refine WO.step (SO.of rfl (EO.alloc Tryz.zeroValue35)) rfl ?_
      rintro _ _ ⟨b6, rfl, rfl⟩
      refine WO.toL [slc 35 3 v_0 vars.length (fl Vl.cells vars), slc 33 1 v_1 nums.length (fl uc nums), F, slc 35 3 (nils 1) ([] : List Vl).length (fl Vl.cells ([] : List Vl)), slc 35 3 c3_1 c3_2.length (fl Vl.cells c3_2), pt b6 (.cells #[.string (ByteArray.mk #[]), .int .i64 0, .int .u64 0] 35 (0, 0))] rfl ?_
      refine WO.step (SO.of rfl (EO.store 5 _ rfl rfl Tryz.sizeOf35 rfl rfl rfl rfl)) rfl ?_
      rintro _ _ rfl
      refine WO.toL [slc 35 3 v_0 vars.length (fl Vl.cells vars), slc 33 1 v_1 nums.length (fl uc nums), F, slc 35 3 (nils 1) ([] : List Vl).length (fl Vl.cells ([] : List Vl)), slc 35 3 c3_1 c3_2.length (fl Vl.cells c3_2), pt b6 (.cells #[.string x5.Name, .int .i64 x5.W, .int .u64 x5.Num] 35 (0, 0))] rfl ?_
      refine WO.nil ?_
      refine WP.seq ?_
      refine WP.region ?_
      refine WO.val (PO.fieldAddr rfl Tryz.runUnderlying35 rfl Tryz.sizeOf33 rfl) rfl ?_
      refine WO.step (SO.of rfl (EO.store 5 _ rfl rfl Tryz.sizeOf33 rfl rfl rfl rfl)) rfl ?_
      rintro _ _ rfl
      refine WO.toL [slc 35 3 v_0 vars.length (fl Vl.cells vars), slc 33 1 v_1 nums.length (fl uc nums), F, slc 35 3 (nils 1) ([] : List Vl).length (fl Vl.cells ([] : List Vl)), slc 35 3 c3_1 c3_2.length (fl Vl.cells c3_2), pt b6 (.cells #[.string x5.Name, .int .i64 x5.W, .int .u64 0] 35 (0, 0))] rfl ?_
      refine WO.nil ?_
      refine WP.seq ?_
      refine WP.seq ?_
      refine WP.region ?_
      refine WO.val (PO.move rfl) rfl ?_
      refine WO.val (PO.lenL 1 rfl Tryz.runUnderlying40 rfl) rfl ?_
      refine WO.val (PO.gtr rfl rfl) rfl ?_
      refine WO.nil ?_
      refine WP.cond rfl (fun h7 => ?_) (fun h7 => ?_)
      · replace hs := cond_t h7 hs
        refine WP.region ?_
        refine WO.val (PO.move rfl) rfl ?_
        refine WO.val (PO.move rfl) rfl ?_
        refine WO.val (PO.move rfl) rfl ?_
        refine WO.val (PO.lenL 1 rfl Tryz.runUnderlying40 rfl) rfl ?_
        obtain ⟨hc8, hs⟩ := check_elim hs
        refine WO.val (PO.rem rfl rfl hc8) rfl ?_
        obtain ⟨x9, hx9, hs⟩ := bind_elim hs
        refine WO.val (PO.idxL 1 rfl rfl Tryz.runUnderlying40 Tryz.sizeOf33 rfl hx9) rfl ?_
        refine WO.val (PO.loadL 1 rfl Tryz.isAgg33 rfl (fl_at (c := uc) (k := 1) (j := 0) (fun _ => rfl) hx9 rfl)) rfl ?_
        refine WO.val (PO.fieldAddr rfl Tryz.runUnderlying35 rfl Tryz.sizeOf33 rfl) rfl ?_
        refine WO.step (SO.of rfl (EO.store 5 _ rfl rfl Tryz.sizeOf33 rfl rfl rfl rfl)) rfl ?_
        rintro _ _ rfl
        refine WO.toL [slc 35 3 v_0 vars.length (fl Vl.cells vars), slc 33 1 v_1 nums.length (fl uc nums), F, slc 35 3 (nils 1) ([] : List Vl).length (fl Vl.cells ([] : List Vl)), slc 35 3 c3_1 c3_2.length (fl Vl.cells c3_2), pt b6 (.cells #[.string x5.Name, .int .i64 x5.W, .int .u64 x9] 35 (0, 0))] rfl ?_
        refine WO.nil ?_
        refine WP.seq ?_
        refine WP.region ?_
        refine WO.val (PO.fieldAddr rfl Tryz.runUnderlying35 rfl Tryz.sizeOf3 rfl) rfl ?_
        refine WO.val (PO.load 5 rfl Tryz.isAgg3 rfl rfl) rfl ?_
        refine WO.val (PO.assign rfl) rfl ?_
        refine WO.nil ?_
        refine WP.seq ?_
        refine WP.seq ?_
        refine WP.region ?_
        refine WO.val (PO.move rfl) rfl ?_
        refine WO.val (PO.eql rfl rfl) rfl ?_
        refine WO.nil ?_
        refine WP.merge [(0, v_0), (1, v_1), (4, (nils 1)), (5, c3_1), (6, .int .i64 c3_0), (7, .pointer (some ⟨b6, 0, none⟩)), (8, .int .i64 (bif (x5.W == 0) then 1 else x5.W))] [slc 35 3 v_0 vars.length (fl Vl.cells vars), slc 33 1 v_1 nums.length (fl uc nums), F, slc 35 3 (nils 1) ([] : List Vl).length (fl Vl.cells ([] : List Vl)), slc 35 3 c3_1 c3_2.length (fl Vl.cells c3_2), pt b6 (.cells #[.string x5.Name, .int .i64 x5.W, .int .u64 x9] 35 (0, 0))] (WP.cond rfl (fun h10 => ?_) (fun h10 => ?_)) ?_
        · refine WP.region ?_
          refine WO.val (PO.assign rfl) rfl ?_
          refine WO.nil ?_
          exact ⟨⟨rfl, rfl, rfl, rfl, rfl, rfl, (by rw [h10] <;> rfl), trivial⟩, rfl⟩
        · refine WP.skip ?_
          exact ⟨⟨rfl, rfl, rfl, rfl, rfl, rfl, (by rw [h10] <;> rfl), trivial⟩, rfl⟩
        intro f_ hf_
        refine WP.keep [(0, v_0), (1, v_1), (4, (nils 1)), (5, c3_1), (6, .int .i64 c3_0), (7, .pointer (some ⟨b6, 0, none⟩)), (8, .int .i64 (bif (x5.W == 0) then 1 else x5.W))] hf_ ?_
        refine WP.seq ?_
        refine WP.seq ?_
        refine WP.region ?_
        refine WO.val (PO.move rfl) rfl ?_
        refine WO.val (PO.lss rfl rfl) rfl ?_
        refine WO.nil ?_
        refine WP.cond rfl (fun h11 => ?_) (fun h11 => ?_)
        · replace hs := cond_t h11 hs
          refine WP.region ?_
          refine WO.val (PO.fieldAddr rfl Tryz.runUnderlying35 rfl Tryz.sizeOf33 rfl) rfl ?_
          refine WO.val (PO.load 5 rfl Tryz.isAgg33 rfl rfl) rfl ?_
          refine WO.val (PO.move rfl) rfl ?_
          refine WO.val (PO.conv rfl Tryz.runUnderlying3 Tryz.runUnderlying81) rfl ?_
          refine WO.val (PO.shl rfl rfl (wrap_nn_u64 _)) rfl ?_
          refine WO.val (PO.sub rfl rfl) rfl ?_
          refine WO.val (PO.and rfl rfl) rfl ?_
          refine WO.val (PO.fieldAddr rfl Tryz.runUnderlying35 rfl Tryz.sizeOf33 rfl) rfl ?_
          refine WO.step (SO.of rfl (EO.store 5 _ rfl rfl Tryz.sizeOf33 rfl rfl rfl rfl)) rfl ?_
          rintro _ _ rfl
          refine WO.toL [slc 35 3 v_0 vars.length (fl Vl.cells vars), slc 33 1 v_1 nums.length (fl uc nums), F, slc 35 3 (nils 1) ([] : List Vl).length (fl Vl.cells ([] : List Vl)), slc 35 3 c3_1 c3_2.length (fl Vl.cells c3_2), pt b6 (.cells #[.string x5.Name, .int .i64 x5.W, .int .u64 (bits .and .u64 x9 (IntKind.u64.wrap ((shlI .u64 1 (IntKind.u64.wrap (bif (x5.W == 0) then 1 else x5.W))) - 1)))] 35 (0, 0))] rfl ?_
          refine WO.nil ?_
          refine WP.region ?_
          refine WO.val (PO.move rfl) rfl ?_
          refine WO.val (PO.loadAgg 5 rfl Tryz.isAgg35 Tryz.sizeOf35 rfl rfl rfl) rfl ?_
          refine WO.step (SO.of rfl (EO.buildSlice1 rfl Tryz.runUnderlying27 Tryz.sizeOf35 Tryz.zeroValue35 rfl rfl rfl rfl)) rfl ?_
          rintro _ _ ⟨b12, rfl, rfl⟩
          refine WO.toL [slc 35 3 v_0 vars.length (fl Vl.cells vars), slc 33 1 v_1 nums.length (fl uc nums), F, slc 35 3 (nils 1) ([] : List Vl).length (fl Vl.cells ([] : List Vl)), slc 35 3 c3_1 c3_2.length (fl Vl.cells c3_2), pt b6 (.cells #[.string x5.Name, .int .i64 x5.W, .int .u64 (bits .and .u64 x9 (IntKind.u64.wrap ((shlI .u64 1 (IntKind.u64.wrap (bif (x5.W == 0) then 1 else x5.W))) - 1)))] 35 (0, 0)), pt b12 (.cells #[.string x5.Name, .int .i64 x5.W, .int .u64 (bits .and .u64 x9 (IntKind.u64.wrap ((shlI .u64 1 (IntKind.u64.wrap (bif (x5.W == 0) then 1 else x5.W))) - 1)))] 35 (0, 0))] rfl ?_
          obtain ⟨hc13, hs⟩ := check_elim hs
          refine WO.step (SO.of rfl (EO.appendL (c := Vl.cells) (a := (⟨x5.Name, x5.W, (bits .and .u64 x9 (IntKind.u64.wrap ((shlI .u64 1 (IntKind.u64.wrap (bif (x5.W == 0) then 1 else x5.W))) - 1)))⟩ : Vl)) 4 6 (fun _ => rfl) Tryz.typeInfo35 rfl rfl rfl rfl Tryz.runUnderlying27 Tryz.underlying27 rfl rfl rfl rfl rfl rfl rfl rfl hc13)) rfl ?_
          rintro v14 _ rfl
          refine WO.toL [slc 35 3 v_0 vars.length (fl Vl.cells vars), slc 33 1 v_1 nums.length (fl uc nums), F, slc 35 3 (nils 1) ([] : List Vl).length (fl Vl.cells ([] : List Vl)), slc 35 3 v14 (c3_2 ++ [(⟨x5.Name, x5.W, (bits .and .u64 x9 (IntKind.u64.wrap ((shlI .u64 1 (IntKind.u64.wrap (bif (x5.W == 0) then 1 else x5.W))) - 1)))⟩ : Vl)]).length (fl Vl.cells (c3_2 ++ [(⟨x5.Name, x5.W, (bits .and .u64 x9 (IntKind.u64.wrap ((shlI .u64 1 (IntKind.u64.wrap (bif (x5.W == 0) then 1 else x5.W))) - 1)))⟩ : Vl)])), pt b6 (.cells #[.string x5.Name, .int .i64 x5.W, .int .u64 (bits .and .u64 x9 (IntKind.u64.wrap ((shlI .u64 1 (IntKind.u64.wrap (bif (x5.W == 0) then 1 else x5.W))) - 1)))] 35 (0, 0)), pt b12 (.cells #[.string x5.Name, .int .i64 x5.W, .int .u64 (bits .and .u64 x9 (IntKind.u64.wrap ((shlI .u64 1 (IntKind.u64.wrap (bif (x5.W == 0) then 1 else x5.W))) - 1)))] 35 (0, 0))] rfl ?_
          refine WO.val (PO.assign rfl) rfl ?_
          refine WO.nil ?_
          refine WP.region ?_
          refine WO.val (PO.move rfl) rfl ?_
          refine WO.val (PO.add rfl rfl) rfl ?_
          refine WO.val (PO.assign rfl) rfl ?_
          refine WO.nil ?_
          exact ⟨c3_k, _, Nat.lt_succ_self _, ⟨(IntKind.i64.wrap (c3_0 + 1)), v14, (c3_2 ++ [(⟨x5.Name, x5.W, (bits .and .u64 x9 (IntKind.u64.wrap ((shlI .u64 1 (IntKind.u64.wrap (bif (x5.W == 0) then 1 else x5.W))) - 1)))⟩ : Vl)]), ⟨rfl, rfl, rfl, rfl, rfl, trivial⟩, rfl, hs⟩, fun _ s => s.pre⟩
        · replace hs := cond_f h11 hs
          refine WP.skip ?_
          refine WP.region ?_
          refine WO.val (PO.move rfl) rfl ?_
          refine WO.val (PO.loadAgg 5 rfl Tryz.isAgg35 Tryz.sizeOf35 rfl rfl rfl) rfl ?_
          refine WO.step (SO.of rfl (EO.buildSlice1 rfl Tryz.runUnderlying27 Tryz.sizeOf35 Tryz.zeroValue35 rfl rfl rfl rfl)) rfl ?_
          rintro _ _ ⟨b15, rfl, rfl⟩
          refine WO.toL [slc 35 3 v_0 vars.length (fl Vl.cells vars), slc 33 1 v_1 nums.length (fl uc nums), F, slc 35 3 (nils 1) ([] : List Vl).length (fl Vl.cells ([] : List Vl)), slc 35 3 c3_1 c3_2.length (fl Vl.cells c3_2), pt b6 (.cells #[.string x5.Name, .int .i64 x5.W, .int .u64 x9] 35 (0, 0)), pt b15 (.cells #[.string x5.Name, .int .i64 x5.W, .int .u64 x9] 35 (0, 0))] rfl ?_
          obtain ⟨hc16, hs⟩ := check_elim hs
          refine WO.step (SO.of rfl (EO.appendL (c := Vl.cells) (a := (⟨x5.Name, x5.W, x9⟩ : Vl)) 4 6 (fun _ => rfl) Tryz.typeInfo35 rfl rfl rfl rfl Tryz.runUnderlying27 Tryz.underlying27 rfl rfl rfl rfl rfl rfl rfl rfl hc16)) rfl ?_
          rintro v17 _ rfl
          refine WO.toL [slc 35 3 v_0 vars.length (fl Vl.cells vars), slc 33 1 v_1 nums.length (fl uc nums), F, slc 35 3 (nils 1) ([] : List Vl).length (fl Vl.cells ([] : List Vl)), slc 35 3 v17 (c3_2 ++ [(⟨x5.Name, x5.W, x9⟩ : Vl)]).length (fl Vl.cells (c3_2 ++ [(⟨x5.Name, x5.W, x9⟩ : Vl)])), pt b6 (.cells #[.string x5.Name, .int .i64 x5.W, .int .u64 x9] 35 (0, 0)), pt b15 (.cells #[.string x5.Name, .int .i64 x5.W, .int .u64 x9] 35 (0, 0))] rfl ?_
          refine WO.val (PO.assign rfl) rfl ?_
          refine WO.nil ?_
          refine WP.region ?_
          refine WO.val (PO.move rfl) rfl ?_
          refine WO.val (PO.add rfl rfl) rfl ?_
          refine WO.val (PO.assign rfl) rfl ?_
          refine WO.nil ?_
          exact ⟨c3_k, _, Nat.lt_succ_self _, ⟨(IntKind.i64.wrap (c3_0 + 1)), v17, (c3_2 ++ [(⟨x5.Name, x5.W, x9⟩ : Vl)]), ⟨rfl, rfl, rfl, rfl, rfl, trivial⟩, rfl, hs⟩, fun _ s => s.pre⟩
      · replace hs := cond_f h7 hs
        refine WP.skip ?_
        refine WP.seq ?_
        refine WP.region ?_
        refine WO.val (PO.fieldAddr rfl Tryz.runUnderlying35 rfl Tryz.sizeOf3 rfl) rfl ?_
        refine WO.val (PO.load 5 rfl Tryz.isAgg3 rfl rfl) rfl ?_
        refine WO.val (PO.assign rfl) rfl ?_
        refine WO.nil ?_
        refine WP.seq ?_
        refine WP.seq ?_
        refine WP.region ?_
        refine WO.val (PO.move rfl) rfl ?_
        refine WO.val (PO.eql rfl rfl) rfl ?_
        refine WO.nil ?_
        refine WP.merge [(0, v_0), (1, v_1), (4, (nils 1)), (5, c3_1), (6, .int .i64 c3_0), (7, .pointer (some ⟨b6, 0, none⟩)), (8, .int .i64 (bif (x5.W == 0) then 1 else x5.W))] [slc 35 3 v_0 vars.length (fl Vl.cells vars), slc 33 1 v_1 nums.length (fl uc nums), F, slc 35 3 (nils 1) ([] : List Vl).length (fl Vl.cells ([] : List Vl)), slc 35 3 c3_1 c3_2.length (fl Vl.cells c3_2), pt b6 (.cells #[.string x5.Name, .int .i64 x5.W, .int .u64 0] 35 (0, 0))] (WP.cond rfl (fun h18 => ?_) (fun h18 => ?_)) ?_
        · refine WP.region ?_
          refine WO.val (PO.assign rfl) rfl ?_
          refine WO.nil ?_
          exact ⟨⟨rfl, rfl, rfl, rfl, rfl, rfl, (by rw [h18] <;> rfl), trivial⟩, rfl⟩
        · refine WP.skip ?_
          exact ⟨⟨rfl, rfl, rfl, rfl, rfl, rfl, (by rw [h18] <;> rfl), trivial⟩, rfl⟩
        intro f_ hf_
        refine WP.keep [(0, v_0), (1, v_1), (4, (nils 1)), (5, c3_1), (6, .int .i64 c3_0), (7, .pointer (some ⟨b6, 0, none⟩)), (8, .int .i64 (bif (x5.W == 0) then 1 else x5.W))] hf_ ?_
        refine WP.seq ?_
        refine WP.seq ?_
        refine WP.region ?_
        refine WO.val (PO.move rfl) rfl ?_
        refine WO.val (PO.lss rfl rfl) rfl ?_
        refine WO.nil ?_
        refine WP.cond rfl (fun h19 => ?_) (fun h19 => ?_)
        · replace hs := cond_t h19 hs
          refine WP.region ?_
          refine WO.val (PO.fieldAddr rfl Tryz.runUnderlying35 rfl Tryz.sizeOf33 rfl) rfl ?_
          refine WO.val (PO.load 5 rfl Tryz.isAgg33 rfl rfl) rfl ?_
          refine WO.val (PO.move rfl) rfl ?_
          refine WO.val (PO.conv rfl Tryz.runUnderlying3 Tryz.runUnderlying81) rfl ?_
          refine WO.val (PO.shl rfl rfl (wrap_nn_u64 _)) rfl ?_
          refine WO.val (PO.sub rfl rfl) rfl ?_
          refine WO.val (PO.and rfl rfl) rfl ?_
          refine WO.val (PO.fieldAddr rfl Tryz.runUnderlying35 rfl Tryz.sizeOf33 rfl) rfl ?_
          refine WO.step (SO.of rfl (EO.store 5 _ rfl rfl Tryz.sizeOf33 rfl rfl rfl rfl)) rfl ?_
          rintro _ _ rfl
          refine WO.toL [slc 35 3 v_0 vars.length (fl Vl.cells vars), slc 33 1 v_1 nums.length (fl uc nums), F, slc 35 3 (nils 1) ([] : List Vl).length (fl Vl.cells ([] : List Vl)), slc 35 3 c3_1 c3_2.length (fl Vl.cells c3_2), pt b6 (.cells #[.string x5.Name, .int .i64 x5.W, .int .u64 (bits .and .u64 0 (IntKind.u64.wrap ((shlI .u64 1 (IntKind.u64.wrap (bif (x5.W == 0) then 1 else x5.W))) - 1)))] 35 (0, 0))] rfl ?_
          refine WO.nil ?_
          refine WP.region ?_
          refine WO.val (PO.move rfl) rfl ?_
          refine WO.val (PO.loadAgg 5 rfl Tryz.isAgg35 Tryz.sizeOf35 rfl rfl rfl) rfl ?_
          refine WO.step (SO.of rfl (EO.buildSlice1 rfl Tryz.runUnderlying27 Tryz.sizeOf35 Tryz.zeroValue35 rfl rfl rfl rfl)) rfl ?_
          rintro _ _ ⟨b20, rfl, rfl⟩
          refine WO.toL [slc 35 3 v_0 vars.length (fl Vl.cells vars), slc 33 1 v_1 nums.length (fl uc nums), F, slc 35 3 (nils 1) ([] : List Vl).length (fl Vl.cells ([] : List Vl)), slc 35 3 c3_1 c3_2.length (fl Vl.cells c3_2), pt b6 (.cells #[.string x5.Name, .int .i64 x5.W, .int .u64 (bits .and .u64 0 (IntKind.u64.wrap ((shlI .u64 1 (IntKind.u64.wrap (bif (x5.W == 0) then 1 else x5.W))) - 1)))] 35 (0, 0)), pt b20 (.cells #[.string x5.Name, .int .i64 x5.W, .int .u64 (bits .and .u64 0 (IntKind.u64.wrap ((shlI .u64 1 (IntKind.u64.wrap (bif (x5.W == 0) then 1 else x5.W))) - 1)))] 35 (0, 0))] rfl ?_
          obtain ⟨hc21, hs⟩ := check_elim hs
          refine WO.step (SO.of rfl (EO.appendL (c := Vl.cells) (a := (⟨x5.Name, x5.W, (bits .and .u64 0 (IntKind.u64.wrap ((shlI .u64 1 (IntKind.u64.wrap (bif (x5.W == 0) then 1 else x5.W))) - 1)))⟩ : Vl)) 4 6 (fun _ => rfl) Tryz.typeInfo35 rfl rfl rfl rfl Tryz.runUnderlying27 Tryz.underlying27 rfl rfl rfl rfl rfl rfl rfl rfl hc21)) rfl ?_
          rintro v22 _ rfl
          refine WO.toL [slc 35 3 v_0 vars.length (fl Vl.cells vars), slc 33 1 v_1 nums.length (fl uc nums), F, slc 35 3 (nils 1) ([] : List Vl).length (fl Vl.cells ([] : List Vl)), slc 35 3 v22 (c3_2 ++ [(⟨x5.Name, x5.W, (bits .and .u64 0 (IntKind.u64.wrap ((shlI .u64 1 (IntKind.u64.wrap (bif (x5.W == 0) then 1 else x5.W))) - 1)))⟩ : Vl)]).length (fl Vl.cells (c3_2 ++ [(⟨x5.Name, x5.W, (bits .and .u64 0 (IntKind.u64.wrap ((shlI .u64 1 (IntKind.u64.wrap (bif (x5.W == 0) then 1 else x5.W))) - 1)))⟩ : Vl)])), pt b6 (.cells #[.string x5.Name, .int .i64 x5.W, .int .u64 (bits .and .u64 0 (IntKind.u64.wrap ((shlI .u64 1 (IntKind.u64.wrap (bif (x5.W == 0) then 1 else x5.W))) - 1)))] 35 (0, 0)), pt b20 (.cells #[.string x5.Name, .int .i64 x5.W, .int .u64 (bits .and .u64 0 (IntKind.u64.wrap ((shlI .u64 1 (IntKind.u64.wrap (bif (x5.W == 0) then 1 else x5.W))) - 1)))] 35 (0, 0))] rfl ?_
          refine WO.val (PO.assign rfl) rfl ?_
          refine WO.nil ?_
          refine WP.region ?_
          refine WO.val (PO.move rfl) rfl ?_
          refine WO.val (PO.add rfl rfl) rfl ?_
          refine WO.val (PO.assign rfl) rfl ?_
          refine WO.nil ?_
          exact ⟨c3_k, _, Nat.lt_succ_self _, ⟨(IntKind.i64.wrap (c3_0 + 1)), v22, (c3_2 ++ [(⟨x5.Name, x5.W, (bits .and .u64 0 (IntKind.u64.wrap ((shlI .u64 1 (IntKind.u64.wrap (bif (x5.W == 0) then 1 else x5.W))) - 1)))⟩ : Vl)]), ⟨rfl, rfl, rfl, rfl, rfl, trivial⟩, rfl, hs⟩, fun _ s => s.pre⟩
        · replace hs := cond_f h19 hs
          refine WP.skip ?_
          refine WP.region ?_
          refine WO.val (PO.move rfl) rfl ?_
          refine WO.val (PO.loadAgg 5 rfl Tryz.isAgg35 Tryz.sizeOf35 rfl rfl rfl) rfl ?_
          refine WO.step (SO.of rfl (EO.buildSlice1 rfl Tryz.runUnderlying27 Tryz.sizeOf35 Tryz.zeroValue35 rfl rfl rfl rfl)) rfl ?_
          rintro _ _ ⟨b23, rfl, rfl⟩
          refine WO.toL [slc 35 3 v_0 vars.length (fl Vl.cells vars), slc 33 1 v_1 nums.length (fl uc nums), F, slc 35 3 (nils 1) ([] : List Vl).length (fl Vl.cells ([] : List Vl)), slc 35 3 c3_1 c3_2.length (fl Vl.cells c3_2), pt b6 (.cells #[.string x5.Name, .int .i64 x5.W, .int .u64 0] 35 (0, 0)), pt b23 (.cells #[.string x5.Name, .int .i64 x5.W, .int .u64 0] 35 (0, 0))] rfl ?_
          obtain ⟨hc24, hs⟩ := check_elim hs
          refine WO.step (SO.of rfl (EO.appendL (c := Vl.cells) (a := (⟨x5.Name, x5.W, 0⟩ : Vl)) 4 6 (fun _ => rfl) Tryz.typeInfo35 rfl rfl rfl rfl Tryz.runUnderlying27 Tryz.underlying27 rfl rfl rfl rfl rfl rfl rfl rfl hc24)) rfl ?_
          rintro v25 _ rfl
          refine WO.toL [slc 35 3 v_0 vars.length (fl Vl.cells vars), slc 33 1 v_1 nums.length (fl uc nums), F, slc 35 3 (nils 1) ([] : List Vl).length (fl Vl.cells ([] : List Vl)), slc 35 3 v25 (c3_2 ++ [(⟨x5.Name, x5.W, 0⟩ : Vl)]).length (fl Vl.cells (c3_2 ++ [(⟨x5.Name, x5.W, 0⟩ : Vl)])), pt b6 (.cells #[.string x5.Name, .int .i64 x5.W, .int .u64 0] 35 (0, 0)), pt b23 (.cells #[.string x5.Name, .int .i64 x5.W, .int .u64 0] 35 (0, 0))] rfl ?_
          refine WO.val (PO.assign rfl) rfl ?_
          refine WO.nil ?_
          refine WP.region ?_
          refine WO.val (PO.move rfl) rfl ?_
          refine WO.val (PO.add rfl rfl) rfl ?_
          refine WO.val (PO.assign rfl) rfl ?_
          refine WO.nil ?_
          exact ⟨c3_k, _, Nat.lt_succ_self _, ⟨(IntKind.i64.wrap (c3_0 + 1)), v25, (c3_2 ++ [(⟨x5.Name, x5.W, 0⟩ : Vl)]), ⟨rfl, rfl, rfl, rfl, rfl, trivial⟩, rfl, hs⟩, fun _ s => s.pre⟩
    · replace hs := cond_f h4 hs
      refine WP.exit (inX.hit ?_)
      refine WP.seq ?_
      refine WP.region ?_
      refine WO.val (PO.move rfl) rfl ?_
      refine WO.val (PO.assign rfl) rfl ?_
      refine WO.nil ?_
      refine WP.ret ?_
      obtain rfl := Option.some.inj hs
      exact ⟨_, c3_1, _, _, rfl, Res.one (RV.tmp rfl), rfl, fun _ s => Sat.out [0, 1, 4, 2] rfl s⟩
attribute [irreducible] s_L_drawn

end Go.Proofs.YtlnionilhagenaaGreatDoor
