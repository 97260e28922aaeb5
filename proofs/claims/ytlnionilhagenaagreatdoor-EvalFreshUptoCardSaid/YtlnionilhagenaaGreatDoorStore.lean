/- Printed by gen.py (my own program): Lean functions with the answers of the Go functions, and the proofs that the code comes to them. -/
import Derived.Test.YtlnionilhagenaaGreatDoorBits
namespace Go.Proofs.YtlnionilhagenaaGreatDoor
open Go.RowKit
set_option linter.all false
set_option maxRecDepth 100000
set_option maxHeartbeats 4000000
theorem Tryz.mixedStore : Tryz.prog.follows .mixedOrders = true := by kernel_rfl

/- (*cadence/term.Store).is -/
def s_St_is (S : St) (t : Int) : Bool :=
  ((decide (1 ≤ t)) && (decide (t ≤ (S.all.length : Int))))
theorem t_St_is {p0 : Nat} {S : St} {t : Int} {r : Bool}
    (hs : s_St_is S t = r) :
    TriV Tryz.prog 32 [.pointer (some ⟨p0, 0, none⟩), .int .i64 t] [stAt p0 S] (.bool r) [stAt p0 S] := by
  unfold s_St_is at hs
  refine TriL.of Tryz.func32 rfl Tryz.ntmps32 Tryz.results32 rfl (fun w0 F => ?_)
  refine WP.seq ?_
  refine WP.region ?_
  refine WO.val (PO.assign rfl) rfl ?_
  refine WO.nil ?_
  refine WP.seq ?_
  refine WP.openSt (fun v0 mf0 mn0 => ?_)
  refine WP.regionG (D := [some 5, some 6, some 7, some 8, some 9, some 10, some 11, some 12, some 13, some 14, some 15, some 4]) rfl ?_
  refine WO.val (PO.move rfl) rfl ?_
  refine WO.val (PO.geq rfl rfl) rfl ?_
  refine WO.val (PO.move rfl) rfl ?_
  refine WO.guardT rfl rfl (fun hg1 => (PO.move rfl).vo) rfl ?_
  refine WO.guardT rfl rfl (fun hg2 => (PO.move rfl).vo) rfl ?_
  refine WO.guardT rfl rfl (fun hg3 => (PO.nilCheck (evg hg3 rfl)).vo) rfl ?_
  refine WO.guardT rfl rfl (fun hg4 => (PO.fieldAddr (evg hg4 rfl) Tryz.runUnderlying80 rfl Tryz.sizeOf77 rfl).vo) rfl ?_
  refine WO.guardT rfl rfl (fun hg5 => (PO.load 0 (evg hg5 rfl) Tryz.isAgg77 rfl rfl).vo) rfl ?_
  refine WO.guardT rfl rfl (fun hg6 => (PO.lenL 1 (evg hg6 rfl) Tryz.runUnderlying77 rfl).vo) rfl ?_
  refine WO.guardT rfl rfl (fun hg7 => (PO.leq (evg hg7 rfl) (evg hg7 rfl)).vo) rfl ?_
  refine WO.val (PO.pickA rfl rfl rfl) rfl ?_
  refine WO.val (PO.assign rfl) rfl ?_
  refine WO.nil ?_
  refine WP.ret ?_
  cases hs
  exact ⟨_, _, _, Res.one (RV.tmp rfl), ⟨rfl, rfl⟩, fun _ s => stAt_close (s := (⟨S.limit, S.all, S.found, S.names⟩ : St)) s⟩
attribute [irreducible] s_St_is

/- (*cadence/term.Store).w -/
def s_St_w (S : St) (t : Int) : Option (Int) :=
  lt (s_St_is S t) fun x1 =>
  cond (!x1)
    (some (-1))
    ((getI S.all (IntKind.i64.wrap (t - 1))).bind fun x3 =>
    some x3.W)
theorem t_St_w {p0 : Nat} {S : St} {t : Int} {r : Int}
    (hs : s_St_w S t = some r) :
    TriV Tryz.prog 73 [.pointer (some ⟨p0, 0, none⟩), .int .i64 t] [stAt p0 S] (.int .i64 r) [stAt p0 S] := by
  unfold s_St_w at hs
  refine TriL.of Tryz.func73 rfl Tryz.ntmps73 Tryz.results73 rfl (fun w0 F => ?_)
  refine WP.seq ?_
  refine WP.region ?_
  refine WO.val (PO.assign rfl) rfl ?_
  refine WO.nil ?_
  refine WP.seq ?_
  refine WP.seq ?_
  refine WP.region ?_
  refine WO.val (PO.move rfl) rfl ?_
  refine WO.val (PO.move rfl) rfl ?_
  obtain ⟨x1, hx1, hs⟩ := lt_elim hs
  refine WO.vo (VO.call1 0 Tryz.call32 rfl rfl (t_St_is hx1)) rfl ?_
  refine WO.val (PO.not rfl) rfl ?_
  refine WO.nil ?_
  refine WP.cond rfl (fun h2 => ?_) (fun h2 => ?_)
  · replace hs := cond_t h2 hs
    refine WP.seq ?_
    refine WP.region ?_
    refine WO.val (PO.assign rfl) rfl ?_
    refine WO.nil ?_
    refine WP.ret ?_
    obtain rfl := Option.some.inj hs
    exact ⟨_, _, _, Res.one (RV.tmp rfl), ⟨rfl, rfl⟩, fun _ s => s⟩
  · replace hs := cond_f h2 hs
    refine WP.skip ?_
    refine WP.seq ?_
    refine WP.openSt (fun v0 mf0 mn0 => ?_)
    refine WP.region ?_
    refine WO.val (PO.move rfl) rfl ?_
    refine WO.val (PO.nilCheck rfl) rfl ?_
    refine WO.val (PO.fieldAddr rfl Tryz.runUnderlying80 rfl Tryz.sizeOf77 rfl) rfl ?_
    refine WO.val (PO.load 0 rfl Tryz.isAgg77 rfl rfl) rfl ?_
    refine WO.val (PO.move rfl) rfl ?_
    refine WO.val (PO.sub rfl rfl) rfl ?_
    obtain ⟨x3, hx3, hs⟩ := bind_elim hs
    refine WO.val (PO.idxL 1 rfl rfl Tryz.runUnderlying77 Tryz.sizeOf45 rfl hx3) rfl ?_
    refine WO.val (PO.fieldAddr rfl Tryz.runUnderlying45 rfl Tryz.sizeOf3 rfl) rfl ?_
    refine WO.val (PO.loadL 1 rfl Tryz.isAgg3 rfl (fl_at (c := Nd.cells) (k := 7) (j := 1) (fun _ => rfl) hx3 rfl)) rfl ?_
    refine WO.val (PO.assign rfl) rfl ?_
    refine WO.nil ?_
    refine WP.ret ?_
    obtain rfl := Option.some.inj hs
    exact ⟨_, _, _, Res.one (RV.tmp rfl), ⟨rfl, rfl⟩, fun _ s => stAt_close (s := (⟨S.limit, S.all, S.found, S.names⟩ : St)) s⟩
attribute [irreducible] s_St_w

/- cadence/term.spare -/
def s_St_spare (n : Nd) : Bool :=
  lt (s_parts n.Op) fun x2 =>
  ((((((decide (x2 < 1)) && (n.A != 0)) || ((decide (x2 < 2)) && (n.B != 0))) || ((decide (x2 < 3)) && (n.C != 0))) || (((n.Num != 0) && (n.Op != 3)) && (n.Op != 31))) || ((!(n.Name.toList == (ByteArray.mk #[]).toList)) && (n.Op != 4)))
theorem t_St_spare {n : Nd} {r : Bool}
    (hs : s_St_spare n = r) :
    TriV Tryz.prog 55 [.agg #[.int .i64 n.Op, .int .i64 n.W, .int .i64 n.A, .int .i64 n.B, .int .i64 n.C, .int .u64 n.Num, .string n.Name]] [] (.bool r) [] := by
  unfold s_St_spare at hs
  refine TriL.of Tryz.func55 rfl Tryz.ntmps55 Tryz.results55 rfl (fun w0 F => ?_)
  refine WP.seq ?_
  refine WP.region ?_
  refine WO.step (SO.of rfl (EO.box rfl)) rfl ?_
  rintro _ _ ⟨b1, rfl, rfl⟩
  refine WO.toL [F, pt b1 (.cells #[.int .i64 n.Op, .int .i64 n.W, .int .i64 n.A, .int .i64 n.B, .int .i64 n.C, .int .u64 n.Num, .string n.Name] 45 (0, 0))] rfl ?_
  refine WO.val (PO.assign rfl) rfl ?_
  refine WO.nil ?_
  refine WP.seq ?_
  refine WP.region ?_
  refine WO.val (PO.fieldAddr rfl Tryz.runUnderlying45 rfl Tryz.sizeOf3 rfl) rfl ?_
  refine WO.val (PO.load 1 rfl Tryz.isAgg3 rfl rfl) rfl ?_
  obtain ⟨x2, hx2, hs⟩ := lt_elim hs
  refine WO.vo (VO.call0 Tryz.call42 rfl (t_parts hx2)) rfl ?_
  refine WO.val (PO.assign rfl) rfl ?_
  refine WO.nil ?_
  refine WP.seq ?_
  refine WP.regionG (D := [some 7, some 8, some 9, some 10, some 11, some 12, some 13, some 14, some 15, some 16, some 17, some 18, some 19, some 20, some 21, some 22, some 23, some 24, some 25, some 26, some 27, some 28, some 29, some 30, some 31, some 32, some 33, some 34, some 35, some 36, some 37, some 38, some 39, some 40, some 41, some 42, some 43, some 44, some 45, some 46, some 47, some 48, some 49, some 50, some 51, some 52, some 53, some 54, some 55, some 56, some 2]) rfl ?_
  refine WO.val (PO.move rfl) rfl ?_
  refine WO.val (PO.lss rfl rfl) rfl ?_
  refine WO.val (PO.move rfl) rfl ?_
  refine WO.guardT rfl rfl (fun hg3 => (PO.fieldAddr rfl Tryz.runUnderlying45 rfl Tryz.sizeOf3 rfl).vo) rfl ?_
  refine WO.guardT rfl rfl (fun hg4 => (PO.load 1 (evg hg4 rfl) Tryz.isAgg3 rfl rfl).vo) rfl ?_
  refine WO.guardT rfl rfl (fun hg5 => (PO.neq (evg hg5 rfl) rfl).vo) rfl ?_
  refine WO.val (PO.pickA rfl rfl rfl) rfl ?_
  refine WO.val (PO.move rfl) rfl ?_
  refine WO.guardF rfl rfl (fun hg6 => (PO.move rfl).vo) rfl ?_
  refine WO.guardF rfl rfl (fun hg7 => (PO.lss (evg hg7 rfl) rfl).vo) rfl ?_
  refine WO.guardF rfl rfl (fun hg8 => (PO.move (evg hg8 rfl)).vo) rfl ?_
  refine WO.guardGT rfl rfl (fun hg9 => (PO.fieldAddr rfl Tryz.runUnderlying45 rfl Tryz.sizeOf3 rfl).vo) rfl ?_
  refine WO.guardGT rfl rfl (fun hg10 => (PO.load 1 (evg hg10 rfl) Tryz.isAgg3 rfl rfl).vo) rfl ?_
  refine WO.guardGT rfl rfl (fun hg11 => (PO.neq (evg hg11 rfl) rfl).vo) rfl ?_
  refine WO.guardF rfl rfl (fun hg12 => (PO.pickAG hg12 (evg hg12 rfl) rfl rfl).vo) rfl ?_
  refine WO.val (PO.pickO rfl rfl rfl) rfl ?_
  refine WO.val (PO.move rfl) rfl ?_
  refine WO.guardF rfl rfl (fun hg13 => (PO.move rfl).vo) rfl ?_
  refine WO.guardF rfl rfl (fun hg14 => (PO.lss (evg hg14 rfl) rfl).vo) rfl ?_
  refine WO.guardF rfl rfl (fun hg15 => (PO.move (evg hg15 rfl)).vo) rfl ?_
  refine WO.guardGT rfl rfl (fun hg16 => (PO.fieldAddr rfl Tryz.runUnderlying45 rfl Tryz.sizeOf3 rfl).vo) rfl ?_
  refine WO.guardGT rfl rfl (fun hg17 => (PO.load 1 (evg hg17 rfl) Tryz.isAgg3 rfl rfl).vo) rfl ?_
  refine WO.guardGT rfl rfl (fun hg18 => (PO.neq (evg hg18 rfl) rfl).vo) rfl ?_
  refine WO.guardF rfl rfl (fun hg19 => (PO.pickAG hg19 (evg hg19 rfl) rfl rfl).vo) rfl ?_
  refine WO.val (PO.pickO rfl rfl rfl) rfl ?_
  refine WO.val (PO.move rfl) rfl ?_
  refine WO.guardF rfl rfl (fun hg20 => (PO.fieldAddr rfl Tryz.runUnderlying45 rfl Tryz.sizeOf33 rfl).vo) rfl ?_
  refine WO.guardF rfl rfl (fun hg21 => (PO.load 1 (evg hg21 rfl) Tryz.isAgg33 rfl rfl).vo) rfl ?_
  refine WO.guardF rfl rfl (fun hg22 => (PO.neq (evg hg22 rfl) rfl).vo) rfl ?_
  refine WO.guardF rfl rfl (fun hg23 => (PO.move (evg hg23 rfl)).vo) rfl ?_
  refine WO.guardGT rfl rfl (fun hg24 => (PO.fieldAddr rfl Tryz.runUnderlying45 rfl Tryz.sizeOf3 rfl).vo) rfl ?_
  refine WO.guardGT rfl rfl (fun hg25 => (PO.load 1 (evg hg25 rfl) Tryz.isAgg3 rfl rfl).vo) rfl ?_
  refine WO.guardGT rfl rfl (fun hg26 => (PO.neq (evg hg26 rfl) rfl).vo) rfl ?_
  refine WO.guardF rfl rfl (fun hg27 => (PO.pickAG hg27 (evg hg27 rfl) rfl rfl).vo) rfl ?_
  refine WO.guardF rfl rfl (fun hg28 => (PO.move (evg hg28 rfl)).vo) rfl ?_
  refine WO.guardGT rfl rfl (fun hg29 => (PO.fieldAddr rfl Tryz.runUnderlying45 rfl Tryz.sizeOf3 rfl).vo) rfl ?_
  refine WO.guardGT rfl rfl (fun hg30 => (PO.load 1 (evg hg30 rfl) Tryz.isAgg3 rfl rfl).vo) rfl ?_
  refine WO.guardGT rfl rfl (fun hg31 => (PO.neq (evg hg31 rfl) rfl).vo) rfl ?_
  refine WO.guardF rfl rfl (fun hg32 => (PO.pickAG hg32 (evg hg32 rfl) rfl rfl).vo) rfl ?_
  refine WO.val (PO.pickO rfl rfl rfl) rfl ?_
  refine WO.val (PO.move rfl) rfl ?_
  refine WO.guardF rfl rfl (fun hg33 => (PO.fieldAddr rfl Tryz.runUnderlying45 rfl Tryz.sizeOf9 rfl).vo) rfl ?_
  refine WO.guardF rfl rfl (fun hg34 => (PO.load 1 (evg hg34 rfl) Tryz.isAgg9 rfl rfl).vo) rfl ?_
  refine WO.guardF rfl rfl (fun hg35 => (PO.sneq (evg hg35 rfl) rfl).vo) rfl ?_
  refine WO.guardF rfl rfl (fun hg36 => (PO.move (evg hg36 rfl)).vo) rfl ?_
  refine WO.guardGT rfl rfl (fun hg37 => (PO.fieldAddr rfl Tryz.runUnderlying45 rfl Tryz.sizeOf3 rfl).vo) rfl ?_
  refine WO.guardGT rfl rfl (fun hg38 => (PO.load 1 (evg hg38 rfl) Tryz.isAgg3 rfl rfl).vo) rfl ?_
  refine WO.guardGT rfl rfl (fun hg39 => (PO.neq (evg hg39 rfl) rfl).vo) rfl ?_
  refine WO.guardF rfl rfl (fun hg40 => (PO.pickAG hg40 (evg hg40 rfl) rfl rfl).vo) rfl ?_
  refine WO.val (PO.pickO rfl rfl rfl) rfl ?_
  refine WO.val (PO.assign rfl) rfl ?_
  refine WO.nil ?_
  refine WP.ret ?_
  cases hs
  exact ⟨_, _, _, Res.one (RV.tmp rfl), ⟨rfl, rfl⟩, fun _ s => s⟩
attribute [irreducible] s_St_spare

/- (*cadence/term.Store).sorted -/
def s_St_sorted (S : St) (s : Nd) : Option (Bool) :=
  (s_St_w S s.A).bind fun x3 =>
  (s_St_w S s.B).bind fun x4 =>
  lt (s_parts s.Op) fun x5 =>
  cond (x5 == 0)
    (some true)
    (cond (s.Op == 5)
      (some (x3 == 0))
      (cond (((s.Op == 6) || (s.Op == 7)) || (s.Op == 8))
        (some ((x3 == 0) && (x4 == 0)))
        (cond (s.Op == 9)
          (some (x3 == x4))
          (cond (s.Op == 14)
            ((opt (x3 == 0) (s_St_w S s.C) 0).bind fun x22 =>
            some ((x3 == 0) && (x4 == x22)))
            (cond (s.Op == 30)
              (some ((decide (0 < x3)) && (decide (0 < x4))))
              (lt (s_parts s.Op) fun x27 =>
              cond (x27 == 1)
                (some (decide (0 < x3)))
                (some ((decide (0 < x3)) && (x3 == x4)))))))))
theorem t_St_sorted {p0 : Nat} {S : St} {s : Nd} {r : Bool}
    (hs : s_St_sorted S s = some r) :
    TriV Tryz.prog 56 [.pointer (some ⟨p0, 0, none⟩), .agg #[.int .i64 s.Op, .int .i64 s.W, .int .i64 s.A, .int .i64 s.B, .int .i64 s.C, .int .u64 s.Num, .string s.Name]] [stAt p0 S] (.bool r) [stAt p0 S] := by
  unfold s_St_sorted at hs
  refine TriL.of Tryz.func56 rfl Tryz.ntmps56 Tryz.results56 rfl (fun w0 F => ?_)
  refine WP.seq ?_
  refine WP.region ?_
  refine WO.step (SO.of rfl (EO.box rfl)) rfl ?_
  rintro _ _ ⟨b1, rfl, rfl⟩
  refine WO.toL [stAt p0 S, F, pt b1 (.cells #[.int .i64 s.Op, .int .i64 s.W, .int .i64 s.A, .int .i64 s.B, .int .i64 s.C, .int .u64 s.Num, .string s.Name] 45 (0, 0))] rfl ?_
  refine WO.val (PO.assign rfl) rfl ?_
  refine WO.nil ?_
  refine WP.seq ?_
  obtain ⟨x3, hx3, hs⟩ := bind_elim hs
  obtain ⟨x4, hx4, hs⟩ := bind_elim hs
  refine WP.draw (γ := Unit) Tryz.mixedStore [some 8, some 9, some 10, some 11, some 12, some 13, some 14, some 15, some 5, some 6] rfl [(0, .pointer (some ⟨p0, 0, none⟩)), (3, .pointer (some ⟨b1, 0, none⟩))] ⟨rfl, rfl, trivial⟩ (fun g2 => [.pointer (some ⟨p0, 0, none⟩), .pointer (some ⟨b1, 2, none⟩), .int .i64 s.A, .int .i64 x3, .pointer (some ⟨p0, 0, none⟩), .pointer (some ⟨b1, 3, none⟩), .int .i64 s.B, .int .i64 x4, .int .i64 x3, .int .i64 x4]) [⟨[], 0, 0, false⟩, ⟨[], 0, 0, false⟩, ⟨[1], 0, 0, false⟩, ⟨[0, 2], 0, 0, false⟩, ⟨[], 0, 0, false⟩, ⟨[], 0, 0, false⟩, ⟨[5], 0, 0, false⟩, ⟨[4, 6], 0, 0, false⟩, ⟨[3, 3], 0, 0, false⟩, ⟨[7, 7], 0, 0, false⟩] [] (fun g2 => [[stAt p0 S, F, pt b1 (.cells #[.int .i64 s.Op, .int .i64 s.W, .int .i64 s.A, .int .i64 s.B, .int .i64 s.C, .int .u64 s.Num, .string s.Name] 45 (0, 0))]]) rfl rfl rfl ⟨(fun g2 => SO.at (SO.val (PO.move rfl) rfl) rfl rfl), (fun g2 => SO.at (SO.val (PO.fieldAddr rfl Tryz.runUnderlying45 rfl Tryz.sizeOf3 rfl) rfl) rfl rfl), (fun g2 => SO.at (SO.val (PO.load 2 rfl Tryz.isAgg3 rfl rfl) rfl) rfl rfl), (fun g2 => SO.at (SO.vo (VO.call1 0 Tryz.call73 rfl rfl (t_St_w hx3)) rfl) rfl rfl), (fun g2 => SO.at (SO.val (PO.move rfl) rfl) rfl rfl), (fun g2 => SO.at (SO.val (PO.fieldAddr rfl Tryz.runUnderlying45 rfl Tryz.sizeOf3 rfl) rfl) rfl rfl), (fun g2 => SO.at (SO.val (PO.load 2 rfl Tryz.isAgg3 rfl rfl) rfl) rfl rfl), (fun g2 => SO.at (SO.vo (VO.call1 0 Tryz.call73 rfl rfl (t_St_w hx4)) rfl) rfl rfl), (fun g2 => SO.at (SO.val (PO.assign rfl) rfl) rfl rfl), (fun g2 => SO.at (SO.val (PO.assign rfl) rfl) rfl rfl), trivial⟩ (fun g2 => [stAt p0 S, F, pt b1 (.cells #[.int .i64 s.Op, .int .i64 s.W, .int .i64 s.A, .int .i64 s.B, .int .i64 s.C, .int .u64 s.Num, .string s.Name] 45 (0, 0))]) (fun _ => rfl) (fun g2 => [(8, .pointer (some ⟨p0, 0, none⟩)), (9, .pointer (some ⟨b1, 2, none⟩)), (10, .int .i64 s.A), (11, .int .i64 x3), (12, .pointer (some ⟨p0, 0, none⟩)), (13, .pointer (some ⟨b1, 3, none⟩)), (14, .int .i64 s.B), (15, .int .i64 x4), (5, .int .i64 x3), (6, .int .i64 x4), (0, .pointer (some ⟨p0, 0, none⟩)), (3, .pointer (some ⟨b1, 0, none⟩))]) (fun _ => rfl) (fun g2 => ?_)
  refine WP.seq ?_
  refine WP.seq ?_
  refine WP.region ?_
  refine WO.val (PO.fieldAddr rfl Tryz.runUnderlying45 rfl Tryz.sizeOf3 rfl) rfl ?_
  refine WO.val (PO.load 2 rfl Tryz.isAgg3 rfl rfl) rfl ?_
  refine WO.val (PO.assign rfl) rfl ?_
  refine WO.nil ?_
  refine WP.block ?_
  refine WP.seq ?_
  refine WP.region ?_
  refine WO.val (PO.move rfl) rfl ?_
  obtain ⟨x5, hx5, hs⟩ := lt_elim hs
  refine WO.vo (VO.call0 Tryz.call42 rfl (t_parts hx5)) rfl ?_
  refine WO.val (PO.eql rfl rfl) rfl ?_
  refine WO.val (PO.assign rfl) rfl ?_
  refine WO.nil ?_
  refine WP.cond rfl (fun h6 => ?_) (fun h6 => ?_)
  · replace hs := cond_t h6 hs
    refine WP.seq ?_
    refine WP.region ?_
    refine WO.val (PO.assign rfl) rfl ?_
    refine WO.nil ?_
    refine WP.ret ?_
    obtain rfl := Option.some.inj hs
    exact ⟨_, _, _, Res.one (RV.tmp rfl), ⟨rfl, rfl⟩, fun _ s => s⟩
  · replace hs := cond_f h6 hs
    refine WP.seq ?_
    refine WP.region ?_
    refine WO.val (PO.move rfl) rfl ?_
    refine WO.val (PO.eql rfl rfl) rfl ?_
    refine WO.val (PO.assign rfl) rfl ?_
    refine WO.nil ?_
    refine WP.cond rfl (fun h7 => ?_) (fun h7 => ?_)
    · replace hs := cond_t h7 hs
      refine WP.seq ?_
      refine WP.region ?_
      refine WO.val (PO.move rfl) rfl ?_
      refine WO.val (PO.eql rfl rfl) rfl ?_
      refine WO.val (PO.assign rfl) rfl ?_
      refine WO.nil ?_
      refine WP.ret ?_
      obtain rfl := Option.some.inj hs
      exact ⟨_, _, _, Res.one (RV.tmp rfl), ⟨rfl, rfl⟩, fun _ s => s⟩
    · replace hs := cond_f h7 hs
      refine WP.seq ?_
      refine WP.regionG (D := [some 28, some 29, some 30, some 31, some 32, some 33, some 34, some 35, some 36, some 37, some 27]) rfl ?_
      refine WO.val (PO.move rfl) rfl ?_
      refine WO.val (PO.eql rfl rfl) rfl ?_
      refine WO.val (PO.move rfl) rfl ?_
      refine WO.guardF rfl rfl (fun hg8 => (PO.move rfl).vo) rfl ?_
      refine WO.guardF rfl rfl (fun hg9 => (PO.eql (evg hg9 rfl) rfl).vo) rfl ?_
      refine WO.val (PO.pickO rfl rfl rfl) rfl ?_
      refine WO.val (PO.move rfl) rfl ?_
      refine WO.guardF rfl rfl (fun hg10 => (PO.move rfl).vo) rfl ?_
      refine WO.guardF rfl rfl (fun hg11 => (PO.eql (evg hg11 rfl) rfl).vo) rfl ?_
      refine WO.val (PO.pickO rfl rfl rfl) rfl ?_
      refine WO.val (PO.assign rfl) rfl ?_
      refine WO.nil ?_
      refine WP.cond rfl (fun h12 => ?_) (fun h12 => ?_)
      · replace hs := cond_t h12 hs
        refine WP.seq ?_
        refine WP.regionG (D := [some 38, some 39, some 40, some 41, some 42, some 43, some 4]) rfl ?_
        refine WO.val (PO.move rfl) rfl ?_
        refine WO.val (PO.eql rfl rfl) rfl ?_
        refine WO.val (PO.move rfl) rfl ?_
        refine WO.guardT rfl rfl (fun hg13 => (PO.move rfl).vo) rfl ?_
        refine WO.guardT rfl rfl (fun hg14 => (PO.eql (evg hg14 rfl) rfl).vo) rfl ?_
        refine WO.val (PO.pickA rfl rfl rfl) rfl ?_
        refine WO.val (PO.assign rfl) rfl ?_
        refine WO.nil ?_
        refine WP.ret ?_
        obtain rfl := Option.some.inj hs
        exact ⟨_, _, _, Res.one (RV.tmp rfl), ⟨rfl, rfl⟩, fun _ s => s⟩
      · replace hs := cond_f h12 hs
        refine WP.seq ?_
        refine WP.region ?_
        refine WO.val (PO.move rfl) rfl ?_
        refine WO.val (PO.eql rfl rfl) rfl ?_
        refine WO.val (PO.assign rfl) rfl ?_
        refine WO.nil ?_
        refine WP.cond rfl (fun h15 => ?_) (fun h15 => ?_)
        · replace hs := cond_t h15 hs
          refine WP.seq ?_
          refine WP.region ?_
          refine WO.val (PO.move rfl) rfl ?_
          refine WO.val (PO.move rfl) rfl ?_
          refine WO.val (PO.eql rfl rfl) rfl ?_
          refine WO.val (PO.assign rfl) rfl ?_
          refine WO.nil ?_
          refine WP.ret ?_
          obtain rfl := Option.some.inj hs
          exact ⟨_, _, _, Res.one (RV.tmp rfl), ⟨rfl, rfl⟩, fun _ s => s⟩
        · replace hs := cond_f h15 hs
          refine WP.seq ?_
          refine WP.region ?_
          refine WO.val (PO.move rfl) rfl ?_
          refine WO.val (PO.eql rfl rfl) rfl ?_
          refine WO.val (PO.assign rfl) rfl ?_
          refine WO.nil ?_
          refine WP.cond rfl (fun h16 => ?_) (fun h16 => ?_)
          · replace hs := cond_t h16 hs
            refine WP.seq ?_
            refine WP.regionG (D := [some 53, some 54, some 55, some 56, some 57, some 58, some 59, some 60, some 61, some 62, some 4]) rfl ?_
            refine WO.val (PO.move rfl) rfl ?_
            refine WO.val (PO.eql rfl rfl) rfl ?_
            refine WO.val (PO.move rfl) rfl ?_
            refine WO.guardT rfl rfl (fun hg17 => (PO.move rfl).vo) rfl ?_
            refine WO.guardT rfl rfl (fun hg18 => (PO.move rfl).vo) rfl ?_
            refine WO.guardT rfl rfl (fun hg19 => (PO.fieldAddr rfl Tryz.runUnderlying45 rfl Tryz.sizeOf3 rfl).vo) rfl ?_
            refine WO.guardT rfl rfl (fun hg20 => (PO.load 2 (evg hg20 rfl) Tryz.isAgg3 rfl rfl).vo) rfl ?_
            obtain ⟨x22, hx22, hs⟩ := bind_elim hs
            refine WO.guardT rfl rfl (fun hg21 => VO.call1 0 Tryz.call73 (evs_cons (evg hg21 rfl) (evs_cons (evg hg21 rfl) evs_nil)) rfl (t_St_w (opt_t hx22 hg21))) rfl ?_
            refine WO.guardT rfl rfl (fun hg23 => (PO.eql (evg hg23 rfl) (evg hg23 rfl)).vo) rfl ?_
            refine WO.val (PO.pickA rfl rfl rfl) rfl ?_
            refine WO.val (PO.assign rfl) rfl ?_
            refine WO.nil ?_
            refine WP.ret ?_
            obtain rfl := Option.some.inj hs
            exact ⟨_, _, _, Res.one (RV.tmp rfl), ⟨rfl, rfl⟩, fun _ s => s⟩
          · replace hs := cond_f h16 hs
            refine WP.seq ?_
            refine WP.region ?_
            refine WO.val (PO.move rfl) rfl ?_
            refine WO.val (PO.eql rfl rfl) rfl ?_
            refine WO.val (PO.assign rfl) rfl ?_
            refine WO.nil ?_
            refine WP.cond rfl (fun h24 => ?_) (fun h24 => ?_)
            · replace hs := cond_t h24 hs
              refine WP.seq ?_
              refine WP.regionG (D := [some 66, some 67, some 68, some 69, some 70, some 71, some 4]) rfl ?_
              refine WO.val (PO.move rfl) rfl ?_
              refine WO.val (PO.gtr rfl rfl) rfl ?_
              refine WO.val (PO.move rfl) rfl ?_
              refine WO.guardT rfl rfl (fun hg25 => (PO.move rfl).vo) rfl ?_
              refine WO.guardT rfl rfl (fun hg26 => (PO.gtr (evg hg26 rfl) rfl).vo) rfl ?_
              refine WO.val (PO.pickA rfl rfl rfl) rfl ?_
              refine WO.val (PO.assign rfl) rfl ?_
              refine WO.nil ?_
              refine WP.ret ?_
              obtain rfl := Option.some.inj hs
              exact ⟨_, _, _, Res.one (RV.tmp rfl), ⟨rfl, rfl⟩, fun _ s => s⟩
            · replace hs := cond_f h24 hs
              refine WP.seq ?_
              refine WP.region ?_
              refine WO.val (PO.move rfl) rfl ?_
              obtain ⟨x27, hx27, hs⟩ := lt_elim hs
              refine WO.vo (VO.call0 Tryz.call42 rfl (t_parts hx27)) rfl ?_
              refine WO.val (PO.eql rfl rfl) rfl ?_
              refine WO.val (PO.assign rfl) rfl ?_
              refine WO.nil ?_
              refine WP.cond rfl (fun h28 => ?_) (fun h28 => ?_)
              · replace hs := cond_t h28 hs
                refine WP.seq ?_
                refine WP.region ?_
                refine WO.val (PO.move rfl) rfl ?_
                refine WO.val (PO.gtr rfl rfl) rfl ?_
                refine WO.val (PO.assign rfl) rfl ?_
                refine WO.nil ?_
                refine WP.ret ?_
                obtain rfl := Option.some.inj hs
                exact ⟨_, _, _, Res.one (RV.tmp rfl), ⟨rfl, rfl⟩, fun _ s => s⟩
              · replace hs := cond_f h28 hs
                refine WP.skip ?_
                refine WP.seq ?_
                refine WP.regionG (D := [some 78, some 79, some 80, some 81, some 82, some 83, some 84, some 4]) rfl ?_
                refine WO.val (PO.move rfl) rfl ?_
                refine WO.val (PO.gtr rfl rfl) rfl ?_
                refine WO.val (PO.move rfl) rfl ?_
                refine WO.guardT rfl rfl (fun hg29 => (PO.move rfl).vo) rfl ?_
                refine WO.guardT rfl rfl (fun hg30 => (PO.move rfl).vo) rfl ?_
                refine WO.guardT rfl rfl (fun hg31 => (PO.eql (evg hg31 rfl) (evg hg31 rfl)).vo) rfl ?_
                refine WO.val (PO.pickA rfl rfl rfl) rfl ?_
                refine WO.val (PO.assign rfl) rfl ?_
                refine WO.nil ?_
                refine WP.ret ?_
                obtain rfl := Option.some.inj hs
                exact ⟨_, _, _, Res.one (RV.tmp rfl), ⟨rfl, rfl⟩, fun _ s => s⟩
attribute [irreducible] s_St_sorted

/- (*cadence/term.Store).wide -/
def s_St_wide (S : St) (s : Nd) : Option (Bool) :=
  (s_St_w S s.A).bind fun x2 =>
  cond (((s.Op == 1) || (s.Op == 2)) || ((decide (5 ≤ s.Op)) && (decide (s.Op ≤ 13))))
    (some (s.W == 0))
    (cond (s.Op == 3)
      (lt (s_Trim s.W s.Num) fun x19 =>
      some ((decide (0 < s.W)) && (x19 == s.Num)))
      (cond (s.Op == 4)
        (some true)
        (cond (s.Op == 14)
          ((s_St_w S s.B).bind fun x26 =>
          some (s.W == x26))
          (cond ((decide (25 ≤ s.Op)) && (decide (s.Op ≤ 29)))
            (lt (s_OnesCount (IntKind.u64.wrap x2)) fun x33 =>
            some ((s.W == x2) && (x33 == 1)))
            (cond (s.Op == 30)
              ((s_St_w S s.B).bind fun x37 =>
              some (s.W == (IntKind.i64.wrap (x2 + x37))))
              (cond (s.Op == 31)
                (some (((decide (1 ≤ s.W)) && (decide (s.W ≤ x2))) && (decide (s.Num ≤ (IntKind.u64.wrap (IntKind.i64.wrap (x2 - s.W)))))))
                (cond ((s.Op == 32) || (s.Op == 33))
                  (some (decide (x2 ≤ s.W)))
                  (some (s.W == x2)))))))))
theorem t_St_wide {p0 : Nat} {S : St} {s : Nd} {r : Bool}
    (hs : s_St_wide S s = some r) :
    TriV Tryz.prog 57 [.pointer (some ⟨p0, 0, none⟩), .agg #[.int .i64 s.Op, .int .i64 s.W, .int .i64 s.A, .int .i64 s.B, .int .i64 s.C, .int .u64 s.Num, .string s.Name]] [stAt p0 S] (.bool r) [stAt p0 S] := by
  unfold s_St_wide at hs
  refine TriL.of Tryz.func57 rfl Tryz.ntmps57 Tryz.results57 rfl (fun w0 F => ?_)
  refine WP.seq ?_
  refine WP.region ?_
  refine WO.step (SO.of rfl (EO.box rfl)) rfl ?_
  rintro _ _ ⟨b1, rfl, rfl⟩
  refine WO.toL [stAt p0 S, F, pt b1 (.cells #[.int .i64 s.Op, .int .i64 s.W, .int .i64 s.A, .int .i64 s.B, .int .i64 s.C, .int .u64 s.Num, .string s.Name] 45 (0, 0))] rfl ?_
  refine WO.val (PO.assign rfl) rfl ?_
  refine WO.nil ?_
  refine WP.seq ?_
  refine WP.region ?_
  refine WO.val (PO.move rfl) rfl ?_
  refine WO.val (PO.fieldAddr rfl Tryz.runUnderlying45 rfl Tryz.sizeOf3 rfl) rfl ?_
  refine WO.val (PO.load 2 rfl Tryz.isAgg3 rfl rfl) rfl ?_
  obtain ⟨x2, hx2, hs⟩ := bind_elim hs
  refine WO.vo (VO.call1 0 Tryz.call73 rfl rfl (t_St_w hx2)) rfl ?_
  refine WO.val (PO.assign rfl) rfl ?_
  refine WO.nil ?_
  refine WP.seq ?_
  refine WP.seq ?_
  refine WP.region ?_
  refine WO.val (PO.fieldAddr rfl Tryz.runUnderlying45 rfl Tryz.sizeOf3 rfl) rfl ?_
  refine WO.val (PO.load 2 rfl Tryz.isAgg3 rfl rfl) rfl ?_
  refine WO.val (PO.assign rfl) rfl ?_
  refine WO.nil ?_
  refine WP.block ?_
  refine WP.seq ?_
  refine WP.regionG (D := [some 14, some 15, some 16, some 17, some 18, some 19, some 20, some 21, some 22, some 23, some 24, some 25, some 26, some 27, some 13]) rfl ?_
  refine WO.val (PO.move rfl) rfl ?_
  refine WO.val (PO.eql rfl rfl) rfl ?_
  refine WO.val (PO.move rfl) rfl ?_
  refine WO.guardF rfl rfl (fun hg3 => (PO.move rfl).vo) rfl ?_
  refine WO.guardF rfl rfl (fun hg4 => (PO.eql (evg hg4 rfl) rfl).vo) rfl ?_
  refine WO.val (PO.pickO rfl rfl rfl) rfl ?_
  refine WO.val (PO.move rfl) rfl ?_
  refine WO.guardF rfl rfl (fun hg5 => (PO.move rfl).vo) rfl ?_
  refine WO.guardF rfl rfl (fun hg6 => (PO.geq (evg hg6 rfl) rfl).vo) rfl ?_
  refine WO.guardF rfl rfl (fun hg7 => (PO.move (evg hg7 rfl)).vo) rfl ?_
  refine WO.guardGT rfl rfl (fun hg8 => (PO.move rfl).vo) rfl ?_
  refine WO.guardGT rfl rfl (fun hg9 => (PO.leq (evg hg9 rfl) rfl).vo) rfl ?_
  refine WO.guardF rfl rfl (fun hg10 => (PO.pickAG hg10 (evg hg10 rfl) rfl rfl).vo) rfl ?_
  refine WO.val (PO.pickO rfl rfl rfl) rfl ?_
  refine WO.val (PO.assign rfl) rfl ?_
  refine WO.nil ?_
  refine WP.cond rfl (fun h11 => ?_) (fun h11 => ?_)
  · replace hs := cond_t h11 hs
    refine WP.seq ?_
    refine WP.region ?_
    refine WO.val (PO.fieldAddr rfl Tryz.runUnderlying45 rfl Tryz.sizeOf3 rfl) rfl ?_
    refine WO.val (PO.load 2 rfl Tryz.isAgg3 rfl rfl) rfl ?_
    refine WO.val (PO.eql rfl rfl) rfl ?_
    refine WO.val (PO.assign rfl) rfl ?_
    refine WO.nil ?_
    refine WP.ret ?_
    obtain rfl := Option.some.inj hs
    exact ⟨_, _, _, Res.one (RV.tmp rfl), ⟨rfl, rfl⟩, fun _ s => s⟩
  · replace hs := cond_f h11 hs
    refine WP.seq ?_
    refine WP.region ?_
    refine WO.val (PO.move rfl) rfl ?_
    refine WO.val (PO.eql rfl rfl) rfl ?_
    refine WO.val (PO.assign rfl) rfl ?_
    refine WO.nil ?_
    refine WP.cond rfl (fun h12 => ?_) (fun h12 => ?_)
    · replace hs := cond_t h12 hs
      refine WP.seq ?_
      obtain ⟨x19, hx19, hs⟩ := lt_elim hs
      refine WP.draw (γ := Unit) Tryz.mixedStore [some 34, some 35, some 36, some 37, some 38, some 39, some 40, some 41, some 42, some 43, some 44, some 45, some 46, some 4] rfl [(3, .pointer (some ⟨b1, 0, none⟩)), (5, .int .i64 x2)] ⟨rfl, rfl, trivial⟩ (fun g13 => [.pointer (some ⟨b1, 1, none⟩), .int .i64 s.W, .bool (decide (0 < s.W)), .bool (decide (0 < s.W)), gd (decide (0 < s.W)) (.pointer (some ⟨b1, 1, none⟩)), gd (decide (0 < s.W)) (.int .i64 s.W), gd (decide (0 < s.W)) (.pointer (some ⟨b1, 5, none⟩)), gd (decide (0 < s.W)) (.int .u64 s.Num), gd (decide (0 < s.W)) (.int .u64 x19), gd (decide (0 < s.W)) (.pointer (some ⟨b1, 5, none⟩)), gd (decide (0 < s.W)) (.int .u64 s.Num), gd (decide (0 < s.W)) (.bool (x19 == s.Num)), .bool ((decide (0 < s.W)) && (x19 == s.Num)), .bool ((decide (0 < s.W)) && (x19 == s.Num))]) [⟨[], 0, 0, false⟩, ⟨[0], 0, 0, false⟩, ⟨[1], 0, 0, false⟩, ⟨[2], 0, 0, false⟩, ⟨[3], 0, 0, false⟩, ⟨[4, 3], 0, 0, false⟩, ⟨[3], 0, 0, false⟩, ⟨[6, 3], 0, 0, false⟩, ⟨[5, 7, 3, 3], 0, 0, false⟩, ⟨[3], 0, 0, false⟩, ⟨[9, 3], 0, 0, false⟩, ⟨[8, 10, 3], 0, 0, false⟩, ⟨[3, 11], 0, 0, false⟩, ⟨[12, 12], 0, 0, false⟩] [] (fun g13 => [[stAt p0 S, F, pt b1 (.cells #[.int .i64 s.Op, .int .i64 s.W, .int .i64 s.A, .int .i64 s.B, .int .i64 s.C, .int .u64 s.Num, .string s.Name] 45 (0, 0))]]) rfl rfl rfl ⟨(fun g13 => SO.at (SO.val (PO.fieldAddr rfl Tryz.runUnderlying45 rfl Tryz.sizeOf3 rfl) rfl) rfl rfl), (fun g13 => SO.at (SO.val (PO.load 2 rfl Tryz.isAgg3 rfl rfl) rfl) rfl rfl), (fun g13 => SO.at (SO.val (PO.gtr rfl rfl) rfl) rfl rfl), (fun g13 => SO.at (SO.val (PO.move rfl) rfl) rfl rfl), (fun g13 => SO.at (SO.guardT rfl rfl (fun hg14 => (PO.fieldAddr rfl Tryz.runUnderlying45 rfl Tryz.sizeOf3 rfl).vo)) rfl rfl), (fun g13 => SO.at (SO.guardT rfl rfl (fun hg15 => (PO.load 2 (evg hg15 rfl) Tryz.isAgg3 rfl rfl).vo)) rfl rfl), (fun g13 => SO.at (SO.guardT rfl rfl (fun hg16 => (PO.fieldAddr rfl Tryz.runUnderlying45 rfl Tryz.sizeOf33 rfl).vo)) rfl rfl), (fun g13 => SO.at (SO.guardT rfl rfl (fun hg17 => (PO.load 2 (evg hg17 rfl) Tryz.isAgg33 rfl rfl).vo)) rfl rfl), (fun g13 => SO.at (SO.guardT rfl rfl (fun hg18 => VO.call0 Tryz.call58 (evs_cons (evg hg18 rfl) (evs_cons (evg hg18 rfl) evs_nil)) (t_Trim hx19))) rfl rfl), (fun g13 => SO.at (SO.guardT rfl rfl (fun hg20 => (PO.fieldAddr rfl Tryz.runUnderlying45 rfl Tryz.sizeOf33 rfl).vo)) rfl rfl), (fun g13 => SO.at (SO.guardT rfl rfl (fun hg21 => (PO.load 2 (evg hg21 rfl) Tryz.isAgg33 rfl rfl).vo)) rfl rfl), (fun g13 => SO.at (SO.guardT rfl rfl (fun hg22 => (PO.eql (evg hg22 rfl) (evg hg22 rfl)).vo)) rfl rfl), (fun g13 => SO.at (SO.val (PO.pickA rfl rfl rfl) rfl) rfl rfl), (fun g13 => SO.at (SO.val (PO.assign rfl) rfl) rfl rfl), trivial⟩ (fun g13 => [stAt p0 S, F, pt b1 (.cells #[.int .i64 s.Op, .int .i64 s.W, .int .i64 s.A, .int .i64 s.B, .int .i64 s.C, .int .u64 s.Num, .string s.Name] 45 (0, 0))]) (fun _ => rfl) (fun g13 => [(34, .pointer (some ⟨b1, 1, none⟩)), (35, .int .i64 s.W), (36, .bool (decide (0 < s.W))), (37, .bool (decide (0 < s.W))), (38, gd (decide (0 < s.W)) (.pointer (some ⟨b1, 1, none⟩))), (39, gd (decide (0 < s.W)) (.int .i64 s.W)), (40, gd (decide (0 < s.W)) (.pointer (some ⟨b1, 5, none⟩))), (41, gd (decide (0 < s.W)) (.int .u64 s.Num)), (42, gd (decide (0 < s.W)) (.int .u64 x19)), (43, gd (decide (0 < s.W)) (.pointer (some ⟨b1, 5, none⟩))), (44, gd (decide (0 < s.W)) (.int .u64 s.Num)), (45, gd (decide (0 < s.W)) (.bool (x19 == s.Num))), (46, .bool ((decide (0 < s.W)) && (x19 == s.Num))), (4, .bool ((decide (0 < s.W)) && (x19 == s.Num))), (3, .pointer (some ⟨b1, 0, none⟩)), (5, .int .i64 x2)]) (fun _ => rfl) (fun g13 => ?_)
      refine WP.ret ?_
      obtain rfl := Option.some.inj hs
      exact ⟨_, _, _, Res.one (RV.tmp rfl), ⟨rfl, rfl⟩, fun _ s => s⟩
    · replace hs := cond_f h12 hs
      refine WP.seq ?_
      refine WP.region ?_
      refine WO.val (PO.move rfl) rfl ?_
      refine WO.val (PO.eql rfl rfl) rfl ?_
      refine WO.val (PO.assign rfl) rfl ?_
      refine WO.nil ?_
      refine WP.cond rfl (fun h23 => ?_) (fun h23 => ?_)
      · replace hs := cond_t h23 hs
        refine WP.seq ?_
        refine WP.region ?_
        refine WO.val (PO.assign rfl) rfl ?_
        refine WO.nil ?_
        refine WP.ret ?_
        obtain rfl := Option.some.inj hs
        exact ⟨_, _, _, Res.one (RV.tmp rfl), ⟨rfl, rfl⟩, fun _ s => s⟩
      · replace hs := cond_f h23 hs
        refine WP.seq ?_
        refine WP.region ?_
        refine WO.val (PO.move rfl) rfl ?_
        refine WO.val (PO.eql rfl rfl) rfl ?_
        refine WO.val (PO.assign rfl) rfl ?_
        refine WO.nil ?_
        refine WP.cond rfl (fun h24 => ?_) (fun h24 => ?_)
        · replace hs := cond_t h24 hs
          refine WP.seq ?_
          obtain ⟨x26, hx26, hs⟩ := bind_elim hs
          refine WP.draw (γ := Unit) Tryz.mixedStore [some 53, some 54, some 55, some 56, some 57, some 58, some 59, some 4] rfl [(0, .pointer (some ⟨p0, 0, none⟩)), (3, .pointer (some ⟨b1, 0, none⟩)), (5, .int .i64 x2)] ⟨rfl, rfl, rfl, trivial⟩ (fun g25 => [.pointer (some ⟨b1, 1, none⟩), .int .i64 s.W, .pointer (some ⟨p0, 0, none⟩), .pointer (some ⟨b1, 3, none⟩), .int .i64 s.B, .int .i64 x26, .bool (s.W == x26), .bool (s.W == x26)]) [⟨[], 0, 0, false⟩, ⟨[0], 0, 0, false⟩, ⟨[], 0, 0, false⟩, ⟨[], 0, 0, false⟩, ⟨[3], 0, 0, false⟩, ⟨[2, 4], 0, 0, false⟩, ⟨[1, 5], 0, 0, false⟩, ⟨[6, 6], 0, 0, false⟩] [] (fun g25 => [[stAt p0 S, F, pt b1 (.cells #[.int .i64 s.Op, .int .i64 s.W, .int .i64 s.A, .int .i64 s.B, .int .i64 s.C, .int .u64 s.Num, .string s.Name] 45 (0, 0))]]) rfl rfl rfl ⟨(fun g25 => SO.at (SO.val (PO.fieldAddr rfl Tryz.runUnderlying45 rfl Tryz.sizeOf3 rfl) rfl) rfl rfl), (fun g25 => SO.at (SO.val (PO.load 2 rfl Tryz.isAgg3 rfl rfl) rfl) rfl rfl), (fun g25 => SO.at (SO.val (PO.move rfl) rfl) rfl rfl), (fun g25 => SO.at (SO.val (PO.fieldAddr rfl Tryz.runUnderlying45 rfl Tryz.sizeOf3 rfl) rfl) rfl rfl), (fun g25 => SO.at (SO.val (PO.load 2 rfl Tryz.isAgg3 rfl rfl) rfl) rfl rfl), (fun g25 => SO.at (SO.vo (VO.call1 0 Tryz.call73 rfl rfl (t_St_w hx26)) rfl) rfl rfl), (fun g25 => SO.at (SO.val (PO.eql rfl rfl) rfl) rfl rfl), (fun g25 => SO.at (SO.val (PO.assign rfl) rfl) rfl rfl), trivial⟩ (fun g25 => [stAt p0 S, F, pt b1 (.cells #[.int .i64 s.Op, .int .i64 s.W, .int .i64 s.A, .int .i64 s.B, .int .i64 s.C, .int .u64 s.Num, .string s.Name] 45 (0, 0))]) (fun _ => rfl) (fun g25 => [(53, .pointer (some ⟨b1, 1, none⟩)), (54, .int .i64 s.W), (55, .pointer (some ⟨p0, 0, none⟩)), (56, .pointer (some ⟨b1, 3, none⟩)), (57, .int .i64 s.B), (58, .int .i64 x26), (59, .bool (s.W == x26)), (4, .bool (s.W == x26)), (0, .pointer (some ⟨p0, 0, none⟩)), (3, .pointer (some ⟨b1, 0, none⟩)), (5, .int .i64 x2)]) (fun _ => rfl) (fun g25 => ?_)
          refine WP.ret ?_
          obtain rfl := Option.some.inj hs
          exact ⟨_, _, _, Res.one (RV.tmp rfl), ⟨rfl, rfl⟩, fun _ s => s⟩
        · replace hs := cond_f h24 hs
          refine WP.seq ?_
          refine WP.regionG (D := [some 61, some 62, some 63, some 64, some 65, some 66, some 60]) rfl ?_
          refine WO.val (PO.move rfl) rfl ?_
          refine WO.val (PO.geq rfl rfl) rfl ?_
          refine WO.val (PO.move rfl) rfl ?_
          refine WO.guardT rfl rfl (fun hg27 => (PO.move rfl).vo) rfl ?_
          refine WO.guardT rfl rfl (fun hg28 => (PO.leq (evg hg28 rfl) rfl).vo) rfl ?_
          refine WO.val (PO.pickA rfl rfl rfl) rfl ?_
          refine WO.val (PO.assign rfl) rfl ?_
          refine WO.nil ?_
          refine WP.cond rfl (fun h29 => ?_) (fun h29 => ?_)
          · replace hs := cond_t h29 hs
            refine WP.seq ?_
            refine WP.regionG (D := [some 67, some 68, some 69, some 70, some 71, some 72, some 73, some 74, some 75, some 76, some 4]) rfl ?_
            refine WO.val (PO.fieldAddr rfl Tryz.runUnderlying45 rfl Tryz.sizeOf3 rfl) rfl ?_
            refine WO.val (PO.load 2 rfl Tryz.isAgg3 rfl rfl) rfl ?_
            refine WO.val (PO.move rfl) rfl ?_
            refine WO.val (PO.eql rfl rfl) rfl ?_
            refine WO.val (PO.move rfl) rfl ?_
            refine WO.guardT rfl rfl (fun hg30 => (PO.move rfl).vo) rfl ?_
            refine WO.guardT rfl rfl (fun hg31 => (PO.conv (evg hg31 rfl) Tryz.runUnderlying3 Tryz.runUnderlying81).vo) rfl ?_
            obtain ⟨x33, hx33, hs⟩ := lt_elim hs
            refine WO.guardT rfl rfl (fun hg32 => VO.call0 Tryz.call78 (evs_cons (evg hg32 rfl) evs_nil) (t_OnesCount hx33)) rfl ?_
            refine WO.guardT rfl rfl (fun hg34 => (PO.eql (evg hg34 rfl) rfl).vo) rfl ?_
            refine WO.val (PO.pickA rfl rfl rfl) rfl ?_
            refine WO.val (PO.assign rfl) rfl ?_
            refine WO.nil ?_
            refine WP.ret ?_
            obtain rfl := Option.some.inj hs
            exact ⟨_, _, _, Res.one (RV.tmp rfl), ⟨rfl, rfl⟩, fun _ s => s⟩
          · replace hs := cond_f h29 hs
            refine WP.seq ?_
            refine WP.region ?_
            refine WO.val (PO.move rfl) rfl ?_
            refine WO.val (PO.eql rfl rfl) rfl ?_
            refine WO.val (PO.assign rfl) rfl ?_
            refine WO.nil ?_
            refine WP.cond rfl (fun h35 => ?_) (fun h35 => ?_)
            · replace hs := cond_t h35 hs
              refine WP.seq ?_
              obtain ⟨x37, hx37, hs⟩ := bind_elim hs
              refine WP.draw (γ := Unit) Tryz.mixedStore [some 80, some 81, some 82, some 83, some 84, some 85, some 86, some 87, some 88, some 4] rfl [(0, .pointer (some ⟨p0, 0, none⟩)), (3, .pointer (some ⟨b1, 0, none⟩)), (5, .int .i64 x2)] ⟨rfl, rfl, rfl, trivial⟩ (fun g36 => [.pointer (some ⟨b1, 1, none⟩), .int .i64 s.W, .int .i64 x2, .pointer (some ⟨p0, 0, none⟩), .pointer (some ⟨b1, 3, none⟩), .int .i64 s.B, .int .i64 x37, .int .i64 (IntKind.i64.wrap (x2 + x37)), .bool (s.W == (IntKind.i64.wrap (x2 + x37))), .bool (s.W == (IntKind.i64.wrap (x2 + x37)))]) [⟨[], 0, 0, false⟩, ⟨[0], 0, 0, false⟩, ⟨[], 0, 0, false⟩, ⟨[], 0, 0, false⟩, ⟨[], 0, 0, false⟩, ⟨[4], 0, 0, false⟩, ⟨[3, 5], 0, 0, false⟩, ⟨[2, 6], 0, 0, false⟩, ⟨[1, 7], 0, 0, false⟩, ⟨[8, 8], 0, 0, false⟩] [] (fun g36 => [[stAt p0 S, F, pt b1 (.cells #[.int .i64 s.Op, .int .i64 s.W, .int .i64 s.A, .int .i64 s.B, .int .i64 s.C, .int .u64 s.Num, .string s.Name] 45 (0, 0))]]) rfl rfl rfl ⟨(fun g36 => SO.at (SO.val (PO.fieldAddr rfl Tryz.runUnderlying45 rfl Tryz.sizeOf3 rfl) rfl) rfl rfl), (fun g36 => SO.at (SO.val (PO.load 2 rfl Tryz.isAgg3 rfl rfl) rfl) rfl rfl), (fun g36 => SO.at (SO.val (PO.move rfl) rfl) rfl rfl), (fun g36 => SO.at (SO.val (PO.move rfl) rfl) rfl rfl), (fun g36 => SO.at (SO.val (PO.fieldAddr rfl Tryz.runUnderlying45 rfl Tryz.sizeOf3 rfl) rfl) rfl rfl), (fun g36 => SO.at (SO.val (PO.load 2 rfl Tryz.isAgg3 rfl rfl) rfl) rfl rfl), (fun g36 => SO.at (SO.vo (VO.call1 0 Tryz.call73 rfl rfl (t_St_w hx37)) rfl) rfl rfl), (fun g36 => SO.at (SO.val (PO.add rfl rfl) rfl) rfl rfl), (fun g36 => SO.at (SO.val (PO.eql rfl rfl) rfl) rfl rfl), (fun g36 => SO.at (SO.val (PO.assign rfl) rfl) rfl rfl), trivial⟩ (fun g36 => [stAt p0 S, F, pt b1 (.cells #[.int .i64 s.Op, .int .i64 s.W, .int .i64 s.A, .int .i64 s.B, .int .i64 s.C, .int .u64 s.Num, .string s.Name] 45 (0, 0))]) (fun _ => rfl) (fun g36 => [(80, .pointer (some ⟨b1, 1, none⟩)), (81, .int .i64 s.W), (82, .int .i64 x2), (83, .pointer (some ⟨p0, 0, none⟩)), (84, .pointer (some ⟨b1, 3, none⟩)), (85, .int .i64 s.B), (86, .int .i64 x37), (87, .int .i64 (IntKind.i64.wrap (x2 + x37))), (88, .bool (s.W == (IntKind.i64.wrap (x2 + x37)))), (4, .bool (s.W == (IntKind.i64.wrap (x2 + x37)))), (0, .pointer (some ⟨p0, 0, none⟩)), (3, .pointer (some ⟨b1, 0, none⟩)), (5, .int .i64 x2)]) (fun _ => rfl) (fun g36 => ?_)
              refine WP.ret ?_
              obtain rfl := Option.some.inj hs
              exact ⟨_, _, _, Res.one (RV.tmp rfl), ⟨rfl, rfl⟩, fun _ s => s⟩
            · replace hs := cond_f h35 hs
              refine WP.seq ?_
              refine WP.region ?_
              refine WO.val (PO.move rfl) rfl ?_
              refine WO.val (PO.eql rfl rfl) rfl ?_
              refine WO.val (PO.assign rfl) rfl ?_
              refine WO.nil ?_
              refine WP.cond rfl (fun h38 => ?_) (fun h38 => ?_)
              · replace hs := cond_t h38 hs
                refine WP.seq ?_
                refine WP.regionG (D := [some 92, some 93, some 94, some 95, some 96, some 97, some 98, some 99, some 100, some 101, some 102, some 103, some 104, some 105, some 106, some 107, some 108, some 109, some 110, some 4]) rfl ?_
                refine WO.val (PO.fieldAddr rfl Tryz.runUnderlying45 rfl Tryz.sizeOf3 rfl) rfl ?_
                refine WO.val (PO.load 2 rfl Tryz.isAgg3 rfl rfl) rfl ?_
                refine WO.val (PO.geq rfl rfl) rfl ?_
                refine WO.val (PO.move rfl) rfl ?_
                refine WO.guardT rfl rfl (fun hg39 => (PO.fieldAddr rfl Tryz.runUnderlying45 rfl Tryz.sizeOf3 rfl).vo) rfl ?_
                refine WO.guardT rfl rfl (fun hg40 => (PO.load 2 (evg hg40 rfl) Tryz.isAgg3 rfl rfl).vo) rfl ?_
                refine WO.guardT rfl rfl (fun hg41 => (PO.move rfl).vo) rfl ?_
                refine WO.guardT rfl rfl (fun hg42 => (PO.leq (evg hg42 rfl) (evg hg42 rfl)).vo) rfl ?_
                refine WO.val (PO.pickA rfl rfl rfl) rfl ?_
                refine WO.val (PO.move rfl) rfl ?_
                refine WO.guardT rfl rfl (fun hg43 => (PO.fieldAddr rfl Tryz.runUnderlying45 rfl Tryz.sizeOf33 rfl).vo) rfl ?_
                refine WO.guardT rfl rfl (fun hg44 => (PO.load 2 (evg hg44 rfl) Tryz.isAgg33 rfl rfl).vo) rfl ?_
                refine WO.guardT rfl rfl (fun hg45 => (PO.move rfl).vo) rfl ?_
                refine WO.guardT rfl rfl (fun hg46 => (PO.fieldAddr rfl Tryz.runUnderlying45 rfl Tryz.sizeOf3 rfl).vo) rfl ?_
                refine WO.guardT rfl rfl (fun hg47 => (PO.load 2 (evg hg47 rfl) Tryz.isAgg3 rfl rfl).vo) rfl ?_
                refine WO.guardT rfl rfl (fun hg48 => (PO.sub (evg hg48 rfl) (evg hg48 rfl)).vo) rfl ?_
                refine WO.guardT rfl rfl (fun hg49 => (PO.conv (evg hg49 rfl) Tryz.runUnderlying3 Tryz.runUnderlying33).vo) rfl ?_
                refine WO.guardT rfl rfl (fun hg50 => (PO.leq (evg hg50 rfl) (evg hg50 rfl)).vo) rfl ?_
                refine WO.val (PO.pickA rfl rfl rfl) rfl ?_
                refine WO.val (PO.assign rfl) rfl ?_
                refine WO.nil ?_
                refine WP.ret ?_
                obtain rfl := Option.some.inj hs
                exact ⟨_, _, _, Res.one (RV.tmp rfl), ⟨rfl, rfl⟩, fun _ s => s⟩
              · replace hs := cond_f h38 hs
                refine WP.seq ?_
                refine WP.regionG (D := [some 112, some 113, some 114, some 115, some 116, some 117, some 111]) rfl ?_
                refine WO.val (PO.move rfl) rfl ?_
                refine WO.val (PO.eql rfl rfl) rfl ?_
                refine WO.val (PO.move rfl) rfl ?_
                refine WO.guardF rfl rfl (fun hg51 => (PO.move rfl).vo) rfl ?_
                refine WO.guardF rfl rfl (fun hg52 => (PO.eql (evg hg52 rfl) rfl).vo) rfl ?_
                refine WO.val (PO.pickO rfl rfl rfl) rfl ?_
                refine WO.val (PO.assign rfl) rfl ?_
                refine WO.nil ?_
                refine WP.cond rfl (fun h53 => ?_) (fun h53 => ?_)
                · replace hs := cond_t h53 hs
                  refine WP.seq ?_
                  refine WP.region ?_
                  refine WO.val (PO.fieldAddr rfl Tryz.runUnderlying45 rfl Tryz.sizeOf3 rfl) rfl ?_
                  refine WO.val (PO.load 2 rfl Tryz.isAgg3 rfl rfl) rfl ?_
                  refine WO.val (PO.move rfl) rfl ?_
                  refine WO.val (PO.geq rfl rfl) rfl ?_
                  refine WO.val (PO.assign rfl) rfl ?_
                  refine WO.nil ?_
                  refine WP.ret ?_
                  obtain rfl := Option.some.inj hs
                  exact ⟨_, _, _, Res.one (RV.tmp rfl), ⟨rfl, rfl⟩, fun _ s => s⟩
                · replace hs := cond_f h53 hs
                  refine WP.skip ?_
                  refine WP.seq ?_
                  refine WP.region ?_
                  refine WO.val (PO.fieldAddr rfl Tryz.runUnderlying45 rfl Tryz.sizeOf3 rfl) rfl ?_
                  refine WO.val (PO.load 2 rfl Tryz.isAgg3 rfl rfl) rfl ?_
                  refine WO.val (PO.move rfl) rfl ?_
                  refine WO.val (PO.eql rfl rfl) rfl ?_
                  refine WO.val (PO.assign rfl) rfl ?_
                  refine WO.nil ?_
                  refine WP.ret ?_
                  obtain rfl := Option.some.inj hs
                  exact ⟨_, _, _, Res.one (RV.tmp rfl), ⟨rfl, rfl⟩, fun _ s => s⟩
attribute [irreducible] s_St_wide

/- (*cadence/term.Store).Node -/
def s_St_Node (S : St) (t : Int) : Option (Nd × Int) :=
  lt (s_St_is S t) fun x2 =>
  cond (!x2)
    (some ((⟨0, 0, 0, 0, 0, 0, (ByteArray.mk #[])⟩ : Nd), 70))
    ((getI S.all (IntKind.i64.wrap (t - 1))).bind fun x4 =>
    some (x4, 0))
theorem t_St_Node {p0 : Nat} {S : St} {t : Int} {r : Nd × Int}
    (hs : s_St_Node S t = some r) :
    TriV Tryz.prog 15 [.pointer (some ⟨p0, 0, none⟩), .int .i64 t] [stAt p0 S] (.tuple #[.agg #[.int .i64 r.1.Op, .int .i64 r.1.W, .int .i64 r.1.A, .int .i64 r.1.B, .int .i64 r.1.C, .int .u64 r.1.Num, .string r.1.Name], .int .i64 r.2]) [stAt p0 S] := by
  unfold s_St_Node at hs
  refine TriL.of Tryz.func15 rfl Tryz.ntmps15 Tryz.results15 rfl (fun w0 F => ?_)
  refine WP.seq ?_
  refine WP.region ?_
  refine WO.step (SO.of rfl (EO.alloc Tryz.zeroValue45)) rfl ?_
  rintro _ _ ⟨b1, rfl, rfl⟩
  refine WO.toL [stAt p0 S, F, pt b1 (.cells #[.int .i64 0, .int .i64 0, .int .i64 0, .int .i64 0, .int .i64 0, .int .u64 0, .string (ByteArray.mk #[])] 45 (0, 0))] rfl ?_
  refine WO.val (PO.assign rfl) rfl ?_
  refine WO.nil ?_
  refine WP.seq ?_
  refine WP.seq ?_
  refine WP.region ?_
  refine WO.val (PO.move rfl) rfl ?_
  refine WO.val (PO.move rfl) rfl ?_
  obtain ⟨x2, hx2, hs⟩ := lt_elim hs
  refine WO.vo (VO.call1 0 Tryz.call32 rfl rfl (t_St_is hx2)) rfl ?_
  refine WO.val (PO.not rfl) rfl ?_
  refine WO.nil ?_
  refine WP.cond rfl (fun h3 => ?_) (fun h3 => ?_)
  · replace hs := cond_t h3 hs
    refine WP.seq ?_
    refine WP.region ?_
    refine WO.val (PO.build (v := .agg #[.int .i64 0, .int .i64 0, .int .i64 0, .int .i64 0, .int .i64 0, .int .u64 0, .string (ByteArray.mk #[])]) rfl (fun w => by simp [Instr.build, Instr.fill, Value.cells, addr_add', Tryz.zeroValue45, Tryz.runUnderlying45, Tryz.sizeOf3, Tryz.sizeOf9, Tryz.sizeOf33])) rfl ?_
    refine WO.step (SO.of rfl (EO.store 2 _ rfl rfl Tryz.sizeOf45 rfl rfl rfl rfl)) rfl ?_
    rintro _ _ rfl
    refine WO.toL [stAt p0 S, F, pt b1 (.cells #[.int .i64 0, .int .i64 0, .int .i64 0, .int .i64 0, .int .i64 0, .int .u64 0, .string (ByteArray.mk #[])] 45 (0, 0))] rfl ?_
    refine WO.val (PO.assign rfl) rfl ?_
    refine WO.nil ?_
    refine WP.ret ?_
    obtain rfl := Option.some.inj hs
    exact ⟨_, _, _, Res.two (RV.cell 2 rfl Tryz.isAgg45 Tryz.sizeOf45 rfl rfl rfl) (RV.tmp rfl), ⟨rfl, rfl⟩, fun _ s => s⟩
  · replace hs := cond_f h3 hs
    refine WP.skip ?_
    refine WP.seq ?_
    refine WP.openSt (fun v0 mf0 mn0 => ?_)
    refine WP.region ?_
    refine WO.val (PO.move rfl) rfl ?_
    refine WO.val (PO.nilCheck rfl) rfl ?_
    refine WO.val (PO.fieldAddr rfl Tryz.runUnderlying80 rfl Tryz.sizeOf77 rfl) rfl ?_
    refine WO.val (PO.load 0 rfl Tryz.isAgg77 rfl rfl) rfl ?_
    refine WO.val (PO.move rfl) rfl ?_
    refine WO.val (PO.sub rfl rfl) rfl ?_
    obtain ⟨x4, hx4, hs⟩ := bind_elim hs
    refine WO.val (PO.idxL 1 rfl rfl Tryz.runUnderlying77 Tryz.sizeOf45 rfl hx4) rfl ?_
    refine WO.val (PO.loadLAgg (c := Nd.cells) (k := 7) 1 (fun _ => rfl) rfl Tryz.isAgg45 Tryz.sizeOf45 rfl hx4 rfl) rfl ?_
    refine WO.step (SO.of rfl (EO.store 5 _ rfl rfl Tryz.sizeOf45 rfl rfl rfl rfl)) rfl ?_
    rintro _ _ rfl
    refine WO.toL [pt p0 (.cells #[.int .i64 S.limit, v0, .map (some mf0), .map (some mn0)] 80 (0, 0)), slc 45 7 v0 S.all.length (fl Nd.cells S.all), mapAt Nd.val iv mf0 S.found, mapAt sv iv mn0 S.names, F, pt b1 (.cells #[.int .i64 x4.Op, .int .i64 x4.W, .int .i64 x4.A, .int .i64 x4.B, .int .i64 x4.C, .int .u64 x4.Num, .string x4.Name] 45 (0, 0))] rfl ?_
    refine WO.val (PO.assign rfl) rfl ?_
    refine WO.nil ?_
    refine WP.ret ?_
    obtain rfl := Option.some.inj hs
    exact ⟨_, _, _, Res.two (RV.cell 5 rfl Tryz.isAgg45 Tryz.sizeOf45 rfl rfl rfl) (RV.tmp rfl), ⟨rfl, rfl⟩, fun _ s => stAt_close (s := (⟨S.limit, S.all, S.found, S.names⟩ : St)) s⟩
attribute [irreducible] s_St_Node

end Go.Proofs.YtlnionilhagenaaGreatDoor
