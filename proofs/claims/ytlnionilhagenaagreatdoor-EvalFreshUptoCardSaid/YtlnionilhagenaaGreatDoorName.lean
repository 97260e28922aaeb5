/- Printed by gen.py (my own program): Lean functions with the answers of the Go functions, and the proofs that the code comes to them. -/
import Derived.Test.YtlnionilhagenaaGreatDoorBits
namespace Go.Proofs.YtlnionilhagenaaGreatDoor
open Go.RowKit
set_option linter.all false
set_option maxRecDepth 100000
set_option maxHeartbeats 4000000
theorem Tryz.mixedName : Tryz.prog.follows .mixedOrders = true := by kernel_rfl

/- cadence/bits.Name -/
def s_Name_l0 (s : ByteArray) : Nat → Nat → Option (Bool)
  | 0, _ => none
  | c6_k + 1, c6_0 =>
    cond (decide (c6_0 < s.size))
      (cond ((!((((decide (97 ≤ ((Utf8.decode s c6_0).1 : Int))) && (decide (((Utf8.decode s c6_0).1 : Int) ≤ 122))) || ((decide (65 ≤ ((Utf8.decode s c6_0).1 : Int))) && (decide (((Utf8.decode s c6_0).1 : Int) ≤ 90)))) || (((Utf8.decode s c6_0).1 : Int) == 95))) && ((((c6_0 : Int) == 0) || (decide (((Utf8.decode s c6_0).1 : Int) < 48))) || (decide (57 < ((Utf8.decode s c6_0).1 : Int)))))
        (some false)
        (s_Name_l0 s c6_k (c6_0 + (Utf8.decode s c6_0).2)))
      (some true)
def s_Name (k : Nat) (s : ByteArray) : Option (Bool) :=
  cond ((decide ((s.size : Int) < 1)) || (decide (24 < (s.size : Int))))
    (some false)
    (s_Name_l0 s k 0)
theorem t_Name {k : Nat} {s : ByteArray} {r : Bool}
    (hs : s_Name k s = some r) :
    TriV Tryz.prog 35 [.string s] [] (.bool r) [] := by
  unfold s_Name at hs
  refine TriL.of Tryz.func35 rfl Tryz.ntmps35 Tryz.results35 rfl (fun w0 F => ?_)
  refine WP.seq ?_
  refine WP.region ?_
  refine WO.val (PO.assign rfl) rfl ?_
  refine WO.nil ?_
  refine WP.seq ?_
  refine WP.seq ?_
  refine WP.regionG (D := [some 6, some 7, some 8, some 9, some 10, some 11, some 12, some 13]) rfl ?_
  refine WO.val (PO.move rfl) rfl ?_
  refine WO.val (PO.lenS rfl Tryz.runUnderlying9) rfl ?_
  refine WO.val (PO.lss rfl rfl) rfl ?_
  refine WO.val (PO.move rfl) rfl ?_
  refine WO.guardF rfl rfl (fun hg1 => (PO.move rfl).vo) rfl ?_
  refine WO.guardF rfl rfl (fun hg2 => (PO.lenS (evg hg2 rfl) Tryz.runUnderlying9).vo) rfl ?_
  refine WO.guardF rfl rfl (fun hg3 => (PO.gtr (evg hg3 rfl) rfl).vo) rfl ?_
  refine WO.val (PO.pickO rfl rfl rfl) rfl ?_
  refine WO.nil ?_
  refine WP.cond rfl (fun h4 => ?_) (fun h4 => ?_)
  · replace hs := cond_t h4 hs
    refine WP.seq ?_
    refine WP.region ?_
    refine WO.val (PO.assign rfl) rfl ?_
    refine WO.nil ?_
    refine WP.ret ?_
    obtain rfl := Option.some.inj hs
    exact ⟨_, _, _, Res.one (RV.tmp rfl), ⟨rfl, rfl⟩, fun _ s => s⟩
  · replace hs := cond_f h4 hs
    refine WP.skip ?_
    refine WP.seq ?_
    refine WP.seq ?_
    refine WP.region ?_
    refine WO.val (PO.move rfl) rfl ?_
    refine WO.step (SO.of rfl (EO.rangeS rfl Tryz.runUnderlying9)) rfl ?_
    rintro _ _ ⟨b5, rfl, rfl⟩
    refine WO.toL [F, pt b5 (.stringIter s 0)] rfl ?_
    refine WO.nil ?_
    refine WP.block ?_
    refine WP.loopG (fun c6_k f_ L_ => ∃ (c6_0 : Nat), Holds f_ [(2, .bool false), (15, .pointer (some ⟨b5, 0, none⟩))] ∧ L_ = [F, pt b5 (.stringIter s c6_0)] ∧ s_Name_l0 s c6_k c6_0 = some r) k ⟨0, ⟨rfl, rfl, trivial⟩, rfl, hs⟩ ?_
    rintro c6_k f_ L_ ⟨c6_0, hf_, rfl, hs⟩
    refine WP.keep [(2, .bool false), (15, .pointer (some ⟨b5, 0, none⟩))] hf_ ?_
    cases c6_k with
    | zero => exact nomatch (show none = some r from hs)
    | succ c6_k =>
      rw [s_Name_l0.eq_2] at hs
      refine WP.seq ?_
      refine WP.region ?_
      refine WO.splitB (decide (c6_0 < s.size)) (fun h7 => ?_) (fun h7 => ?_)
      · replace hs := cond_t h7 hs
        refine WO.step (SO.of rfl (EO.nextT 1 _ rfl rfl h7 rfl)) rfl ?_
        rintro _ _ ⟨rfl, rfl⟩
        refine WO.toL [F, pt b5 (.stringIter s (c6_0 + (Utf8.decode s c6_0).2))] rfl ?_
        refine WO.val (PO.extract rfl rfl) rfl ?_
        refine WO.nil ?_
        refine WP.seq ?_
        refine WP.condT rfl ?_
        refine WP.skip ?_
        refine WP.block ?_
        refine WP.seq ?_
        refine WP.region ?_
        refine WO.val (PO.extract rfl rfl) rfl ?_
        refine WO.val (PO.extract rfl rfl) rfl ?_
        refine WO.val (PO.assign rfl) rfl ?_
        refine WO.val (PO.assign rfl) rfl ?_
        refine WO.nil ?_
        refine WP.seq ?_
        refine WP.regionG (D := [some 20, some 21, some 22, some 23, some 24, some 25, some 26, some 27, some 28, some 29, some 30, some 31, some 32, some 33, some 34, some 35, some 36, some 37, some 5]) rfl ?_
        refine WO.val (PO.move rfl) rfl ?_
        refine WO.val (PO.geq rfl rfl) rfl ?_
        refine WO.val (PO.move rfl) rfl ?_
        refine WO.guardT rfl rfl (fun hg8 => (PO.move rfl).vo) rfl ?_
        refine WO.guardT rfl rfl (fun hg9 => (PO.leq (evg hg9 rfl) rfl).vo) rfl ?_
        refine WO.val (PO.pickA rfl rfl rfl) rfl ?_
        refine WO.val (PO.move rfl) rfl ?_
        refine WO.guardF rfl rfl (fun hg10 => (PO.move rfl).vo) rfl ?_
        refine WO.guardF rfl rfl (fun hg11 => (PO.geq (evg hg11 rfl) rfl).vo) rfl ?_
        refine WO.guardF rfl rfl (fun hg12 => (PO.move (evg hg12 rfl)).vo) rfl ?_
        refine WO.guardGT rfl rfl (fun hg13 => (PO.move rfl).vo) rfl ?_
        refine WO.guardGT rfl rfl (fun hg14 => (PO.leq (evg hg14 rfl) rfl).vo) rfl ?_
        refine WO.guardF rfl rfl (fun hg15 => (PO.pickAG hg15 (evg hg15 rfl) rfl rfl).vo) rfl ?_
        refine WO.val (PO.pickO rfl rfl rfl) rfl ?_
        refine WO.val (PO.move rfl) rfl ?_
        refine WO.guardF rfl rfl (fun hg16 => (PO.move rfl).vo) rfl ?_
        refine WO.guardF rfl rfl (fun hg17 => (PO.eql (evg hg17 rfl) rfl).vo) rfl ?_
        refine WO.val (PO.pickO rfl rfl rfl) rfl ?_
        refine WO.val (PO.assign rfl) rfl ?_
        refine WO.nil ?_
        refine WP.seq ?_
        refine WP.regionG (D := [some 38, some 39, some 40, some 41, some 42, some 43, some 44, some 45, some 46, some 47, some 48, some 49, some 50, some 51]) rfl ?_
        refine WO.val (PO.move rfl) rfl ?_
        refine WO.val (PO.not rfl) rfl ?_
        refine WO.val (PO.move rfl) rfl ?_
        refine WO.guardT rfl rfl (fun hg18 => (PO.move rfl).vo) rfl ?_
        refine WO.guardT rfl rfl (fun hg19 => (PO.eql (evg hg19 rfl) rfl).vo) rfl ?_
        refine WO.guardT rfl rfl (fun hg20 => (PO.move (evg hg20 rfl)).vo) rfl ?_
        refine WO.guardGF rfl rfl (fun hg21 => (PO.move rfl).vo) rfl ?_
        refine WO.guardGF rfl rfl (fun hg22 => (PO.lss (evg hg22 rfl) rfl).vo) rfl ?_
        refine WO.guardT rfl rfl (fun hg23 => (PO.pickOG hg23 (evg hg23 rfl) rfl rfl).vo) rfl ?_
        refine WO.guardT rfl rfl (fun hg24 => (PO.move (evg hg24 rfl)).vo) rfl ?_
        refine WO.guardGF rfl rfl (fun hg25 => (PO.move rfl).vo) rfl ?_
        refine WO.guardGF rfl rfl (fun hg26 => (PO.gtr (evg hg26 rfl) rfl).vo) rfl ?_
        refine WO.guardT rfl rfl (fun hg27 => (PO.pickOG hg27 (evg hg27 rfl) rfl rfl).vo) rfl ?_
        refine WO.val (PO.pickA rfl rfl rfl) rfl ?_
        refine WO.nil ?_
        refine WP.cond rfl (fun h28 => ?_) (fun h28 => ?_)
        · replace hs := cond_t h28 hs
          refine WP.seq ?_
          refine WP.region ?_
          refine WO.val (PO.assign rfl) rfl ?_
          refine WO.nil ?_
          refine WP.ret ?_
          obtain rfl := Option.some.inj hs
          exact ⟨_, _, _, Res.one (RV.tmp rfl), ⟨rfl, rfl⟩, fun _ s => s⟩
        · replace hs := cond_f h28 hs
          refine WP.skip ?_
          exact ⟨c6_k, _, Nat.lt_succ_self _, ⟨(c6_0 + (Utf8.decode s c6_0).2), ⟨rfl, rfl, trivial⟩, rfl, hs⟩, fun _ s => s.pre⟩
      · replace hs := cond_f h7 hs
        refine WO.val (PO.nextF 1 rfl rfl h7) rfl ?_
        refine WO.val (PO.extract rfl rfl) rfl ?_
        refine WO.nil ?_
        refine WP.seq ?_
        refine WP.condF rfl ?_
        refine WP.exit (inX.hit ?_)
        refine WP.seq ?_
        refine WP.region ?_
        refine WO.val (PO.assign rfl) rfl ?_
        refine WO.nil ?_
        refine WP.ret ?_
        obtain rfl := Option.some.inj hs
        exact ⟨_, _, _, Res.one (RV.tmp rfl), ⟨rfl, rfl⟩, fun _ s => s⟩
attribute [irreducible] s_Name

end Go.Proofs.YtlnionilhagenaaGreatDoor
