/- Printed by gen.py (my own program): Lean functions with the answers of the Go functions, and the proofs that the code comes to them. -/
import Derived.Test.YtlnionilhagenaaGreatDoorDlw
namespace Go.Proofs.YtlnionilhagenaaGreatDoor
open Go.RowKit
set_option linter.all false
set_option maxRecDepth 100000
set_option maxHeartbeats 4000000
theorem Tryz.mixedLo : Tryz.prog.follows .mixedOrders = true := by kernel_rfl

/- cadence/cadencelaw08.load -/
def s_load (k : Nat) (text : ByteArray) : Option (Except Int (St × List Int)) :=
  two (s_Load k text 0)
    (fun q3 =>
      lt (s_L_no q3) fun x6 =>
      if ((x6 == 0) && false) = false then (some (.error 0)) else none)
    (fun x2 =>
      lt (s_L_no 0) fun x9 =>
      if ((x9 == 0) && true) = true then (some (.ok (x2.1, x2.2))) else none)
theorem t_load [GlobFix] {k : Nat} {text : ByteArray} {r : Except Int (St × List Int)} (hs : s_load k text = some r) :
    TriX Tryz.prog 8 [.string text] [gl] (.ok r) faultV valO postO := by
  unfold s_load at hs
  refine TriX.of Tryz.func8 rfl Tryz.ntmps8 Tryz.results8 rfl (fun w0 F => ?_)
  refine WP.seq ?_
  refine WP.region ?_
  refine WO.val (PO.assign rfl) rfl ?_
  refine WO.heap [gl, F, slc 3 1 (nils 1) ([] : List Int).length (fl ic ([] : List Int))] (fun _ s => s.addNil 3 1 1) ?_
  refine WO.val (PO.assign (v := (nils 1)) rfl) rfl ?_
  refine WO.val (PO.assign rfl) rfl ?_
  refine WO.nil ?_
  refine WP.seq ?_
  refine WP.region ?_
  refine WO.val (PO.move rfl) rfl ?_
  rcases two_elim hs with ⟨q3, hx2, hs⟩ | ⟨x2, hx2, hs⟩
  · refine WO.step (SO.of rfl (EO.callX [0] Tryz.call23 rfl rfl (t_Load hx2) (fun _ => ⟨rfl, trivial⟩))) rfl ?_
    rintro _ _ ⟨c4, rfl, rfl⟩
    refine WO.toL [gl, F, slc 3 1 (nils 1) ([] : List Int).length (fl ic ([] : List Int))] rfl ?_
    refine WO.heap [gl, F, slc 3 1 (nils 1) ([] : List Int).length (fl ic ([] : List Int)), slc 3 1 (nils 5) ([] : List Int).length (fl ic ([] : List Int))] (fun _ s => s.addNil 3 1 5) ?_
    refine WO.val (PO.move rfl) rfl ?_
    refine WO.val (PO.extract rfl rfl) rfl ?_
    refine WO.val (PO.extract rfl rfl) rfl ?_
    refine WO.val (PO.extract rfl rfl) rfl ?_
    refine WO.val (PO.extract rfl rfl) rfl ?_
    refine WO.val (PO.assign rfl) rfl ?_
    refine WO.val (PO.assign rfl) rfl ?_
    refine WO.val (PO.assign rfl) rfl ?_
    refine WO.val (PO.assign rfl) rfl ?_
    refine WO.nil ?_
    refine WP.seq ?_
    refine WP.regionG (D := [some 16, some 17, some 18, some 19, some 20, some 21, some 22, some 23, some 24, some 2, some 3, some 4]) rfl ?_
    refine WO.val (PO.move rfl) rfl ?_
    refine WO.val (PO.move rfl) rfl ?_
    refine WO.val (PO.move rfl) rfl ?_
    obtain ⟨x6, hx6, hs⟩ := lt_elim hs
    refine WO.vo (VO.call0 Tryz.call11 rfl (t_L_no hx6)) rfl ?_
    refine WO.val (PO.eql rfl rfl) rfl ?_
    refine WO.val (PO.move rfl) rfl ?_
    refine WO.guardT rfl rfl (fun hg7 => (PO.move rfl).vo) rfl ?_
    refine WO.guardT rfl rfl (fun hg8 => (PO.neqNP (evg hg8 rfl) rfl Tryz.runUnderlying23).vo) rfl ?_
    refine WO.val (PO.pickA rfl rfl rfl) rfl ?_
    refine WO.val (PO.assign rfl) rfl ?_
    refine WO.val (PO.assign rfl) rfl ?_
    refine WO.val (PO.assign rfl) rfl ?_
    refine WO.nil ?_
    refine WP.ret ?_
    obtain ⟨hb_, hs⟩ := check_elim hs
    obtain rfl := Option.some.inj hs
    exact ⟨_, (0, undef), _, _, rfl, Res.three (RV.tmp rfl) (RV.tmp rfl) (RV.tmp rfl), (by rw [hb_]; rfl), fun _ s => Sat.out (B := [gl]) [0, 1] rfl s⟩
  · refine WO.step (SO.of rfl (EO.callX [0] Tryz.call23 rfl rfl (t_Load hx2) (fun _ => ⟨rfl, trivial⟩))) rfl ?_
    rintro _ _ ⟨c4, rfl, rfl⟩
    refine WO.toL [gl, F, slc 3 1 (nils 1) ([] : List Int).length (fl ic ([] : List Int)), stAt c4.1 x2.1, slc 3 1 c4.2.1 x2.2.length (fl ic x2.2)] rfl ?_
    refine WO.val (PO.move rfl) rfl ?_
    refine WO.val (PO.extract rfl rfl) rfl ?_
    refine WO.val (PO.extract rfl rfl) rfl ?_
    refine WO.val (PO.extract rfl rfl) rfl ?_
    refine WO.val (PO.extract rfl rfl) rfl ?_
    refine WO.val (PO.assign rfl) rfl ?_
    refine WO.val (PO.assign rfl) rfl ?_
    refine WO.val (PO.assign rfl) rfl ?_
    refine WO.val (PO.assign rfl) rfl ?_
    refine WO.nil ?_
    refine WP.seq ?_
    refine WP.regionG (D := [some 16, some 17, some 18, some 19, some 20, some 21, some 22, some 23, some 24, some 2, some 3, some 4]) rfl ?_
    refine WO.val (PO.move rfl) rfl ?_
    refine WO.val (PO.move rfl) rfl ?_
    refine WO.val (PO.move rfl) rfl ?_
    obtain ⟨x9, hx9, hs⟩ := lt_elim hs
    refine WO.vo (VO.call0 Tryz.call11 rfl (t_L_no hx9)) rfl ?_
    refine WO.val (PO.eql rfl rfl) rfl ?_
    refine WO.val (PO.move rfl) rfl ?_
    refine WO.guardT rfl rfl (fun hg10 => (PO.move rfl).vo) rfl ?_
    refine WO.guardT rfl rfl (fun hg11 => (PO.neqPN (evg hg11 rfl) rfl Tryz.runUnderlying23).vo) rfl ?_
    refine WO.val (PO.pickA rfl rfl rfl) rfl ?_
    refine WO.val (PO.assign rfl) rfl ?_
    refine WO.val (PO.assign rfl) rfl ?_
    refine WO.val (PO.assign rfl) rfl ?_
    refine WO.nil ?_
    refine WP.ret ?_
    obtain ⟨hb_, hs⟩ := check_elim hs
    obtain rfl := Option.some.inj hs
    exact ⟨_, (c4.1, c4.2.1), _, _, rfl, Res.three (RV.tmp rfl) (RV.tmp rfl) (RV.tmp rfl), (by rw [hb_]; rfl), fun _ s => Sat.out (B := [gl, _, _]) [0, 3, 4, 1] rfl s⟩

end Go.Proofs.YtlnionilhagenaaGreatDoor
