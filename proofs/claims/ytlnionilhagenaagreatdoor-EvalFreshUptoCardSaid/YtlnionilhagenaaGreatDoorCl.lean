/- Printed by gen.py (my own program): Lean functions with the answers of the Go functions, and the proofs that the code comes to them. -/
import Derived.Test.YtlnionilhagenaaGreatDoorDwpd
namespace Go.Proofs.YtlnionilhagenaaGreatDoor
open Go.RowKit
set_option linter.all false
set_option maxRecDepth 100000
set_option maxHeartbeats 4000000
theorem Tryz.mixedCl : Tryz.prog.follows .mixedOrders = true := by kernel_rfl

/- cadence/term.Load$1 -/

theorem d_fault [GlobFix] {w0 : World} {p4 p5 p7 : Nat} {u4 u5 u7 : Value} {q : Int} {F : HP} {w : World} (s : Sat w0 [gl, F, ptL 23 p4 u4, ptL 24 p5 u5, ptL 28 p7 u7] w) :
    CallsD Tryz.prog 46 #[.pointer (some ⟨p4, 0, none⟩), .pointer (some ⟨p5, 0, none⟩), .pointer (some ⟨p7, 0, none⟩)] (.panicking [{ v := faultV.val q, recovered := false }]) w fun e u' w' =>
      e = .returned (.tuple #[]) ∧ u' = .panicking [{ v := faultV.val q, recovered := true }] ∧ Sat w0 [gl, F, ptL 23 p4 (.pointer none), ptL 24 p5 (.slice none 0 0), ptL 28 p7 (.int .i64 q)] w' := by
  refine callsD_of_wpS Tryz.func46 rfl fun c₀ cs hu => ?_
  apply wpS_seq
  apply wpS_region
  simp [wpOpsS, go_sem, recoverD, hu, Tryz.ntmps46, Exit.thenS]
  refine wpS_of_wp ?_
  refine wp_by (n := ⟨14, []⟩) (w0 := ⟨w0, fun _ _ _ => False⟩) [(0, .pointer (some ⟨p4, 0, none⟩)), (1, .pointer (some ⟨p5, 0, none⟩)), (2, .pointer (some ⟨p7, 0, none⟩)), (6, faultV.val q)] [gl, F, ptL 23 p4 u4, ptL 24 p5 u5, ptL 28 p7 u7] (JF w0 F p4 p5 p7 q) (JF w0 F p4 p5 p7 q) ?_ ?_ ?_ ?_ s ?_
  · exact fun _ _ _ _ _ h => h.elim
  · rintro a w f L ⟨R, hR⟩ fr st
    have s2 : Sat w0 ([gl, F, ptL 23 p4 (.pointer none), ptL 24 p5 (.slice none 0 0), ptL 28 p7 (.int .i64 q)] ++ R) w := hR w st
    refine ⟨fr.defers, _, rfl, .tuple #[], ?_, rfl, rfl, Sat.pre (w0 := ⟨w0, fun _ _ _ => False⟩) s2⟩
    simp [results, Tryz.results46]
  · rintro a w f L ⟨R, hR⟩ fr st
    have s2 : Sat w0 ([gl, F, ptL 23 p4 (.pointer none), ptL 24 p5 (.slice none 0 0), ptL 28 p7 (.int .i64 q)] ++ R) w := hR w st
    refine ⟨fr.defers, _, rfl, .tuple #[], ?_, rfl, rfl, Sat.pre (w0 := ⟨w0, fun _ _ _ => False⟩) s2⟩
    simp [results, Tryz.results46]
  · refine ⟨rfl, by simp, fun i v e => ?_⟩
    rcases i with _ | _ | _ | _ | _ | _ | _ | i <;> simp [look] at e ⊢ <;> first | exact e | (cases e; done) | (cases e; rfl)
  refine WP.block ?_
  refine WP.seq ?_
  refine WP.region ?_
  refine WO.val (PO.eqlIN rfl Tryz.runUnderlying20) rfl ?_
  refine WO.nil ?_
  refine WP.condF rfl ?_
  refine WP.seq ?_
  refine WP.region ?_
  refine WO.val (PO.assert2 rfl Tryz.runUnderlying105 rfl) rfl ?_
  refine WO.val (PO.extract rfl rfl) rfl ?_
  refine WO.val (PO.extract rfl rfl) rfl ?_
  refine WO.nil ?_
  refine WP.condT rfl ?_
  refine WP.seq ?_
  refine WP.region ?_
  refine WO.step (SO.of rfl (EO.alloc Tryz.zeroValue105)) rfl ?_
  rintro _ _ ⟨b1, rfl, rfl⟩
  refine WO.toL [gl, F, pt p4 (.cells #[u4] 23 (0, 0)), pt p5 (.cells #[u5] 24 (0, 0)), pt p7 (.cells #[u7] 28 (0, 0)), pt b1 (.cells #[.int .i64 0] 105 (0, 0))] rfl ?_
  refine WO.step (SO.of rfl (EO.store 5 _ rfl rfl Tryz.sizeOf105 rfl rfl rfl rfl)) rfl ?_
  rintro _ _ rfl
  refine WO.toL [gl, F, pt p4 (.cells #[u4] 23 (0, 0)), pt p5 (.cells #[u5] 24 (0, 0)), pt p7 (.cells #[u7] 28 (0, 0)), pt b1 (.cells #[.int .i64 q] 105 (0, 0))] rfl ?_
  refine WO.nil ?_
  refine WP.heap [gl, F, pt p4 (.cells #[u4] 23 (0, 0)), pt p5 (.cells #[u5] 24 (0, 0)), pt p7 (.cells #[u7] 28 (0, 0)), pt b1 (.cells #[.int .i64 q] 105 (0, 0)), slc 3 1 (nils 2) ([] : List Int).length (fl ic ([] : List Int))] (fun _ s => s.addNil 3 1 2) ?_
  refine WP.draw (γ := Unit) Tryz.mixedCl [some 12, some 13, none, none, none] rfl [(0, .pointer (some ⟨p4, 0, none⟩)), (1, .pointer (some ⟨p5, 0, none⟩)), (2, .pointer (some ⟨p7, 0, none⟩)), (4, .pointer (some ⟨b1, 0, none⟩))] ⟨rfl, rfl, rfl, rfl, trivial⟩ (fun g3 => [.pointer (some ⟨b1, 0, none⟩), .int .i64 q, undef, undef, undef]) [⟨[], 0, 2, false⟩, ⟨[0], 0, 2, false⟩, ⟨[], 0, 0, true⟩, ⟨[], 1, 0, true⟩, ⟨[1, 1], 2, 0, true⟩] [2, 3, 4] (fun g3 => [[gl, F, pt p4 (.cells #[u4] 23 (0, 0)), pt p5 (.cells #[u5] 24 (0, 0)), pt p7 (.cells #[u7] 28 (0, 0)), pt b1 (.cells #[.int .i64 q] 105 (0, 0)), slc 3 1 (nils 2) ([] : List Int).length (fl ic ([] : List Int))], [gl, F, pt p4 (.cells #[.pointer none] 23 (0, 0)), pt p5 (.cells #[u5] 24 (0, 0)), pt p7 (.cells #[u7] 28 (0, 0)), pt b1 (.cells #[.int .i64 q] 105 (0, 0)), slc 3 1 (nils 2) ([] : List Int).length (fl ic ([] : List Int))], [gl, F, pt p4 (.cells #[.pointer none] 23 (0, 0)), pt p5 (.cells #[(nils 2)] 24 (0, 0)), pt p7 (.cells #[u7] 28 (0, 0)), pt b1 (.cells #[.int .i64 q] 105 (0, 0)), slc 3 1 (nils 2) ([] : List Int).length (fl ic ([] : List Int))], [gl, F, pt p4 (.cells #[.pointer none] 23 (0, 0)), pt p5 (.cells #[(nils 2)] 24 (0, 0)), pt p7 (.cells #[.int .i64 q] 28 (0, 0)), pt b1 (.cells #[.int .i64 q] 105 (0, 0)), slc 3 1 (nils 2) ([] : List Int).length (fl ic ([] : List Int))]]) rfl rfl rfl ⟨⟨(fun g3 => SO.at (SO.val (PO.fieldAddr rfl Tryz.runUnderlying105 rfl Tryz.sizeOf28 rfl) rfl) rfl rfl), (fun g3 => SO.at (SO.val (PO.fieldAddr rfl Tryz.runUnderlying105 rfl Tryz.sizeOf28 rfl) rfl) rfl rfl), (fun g3 => SO.at (SO.val (PO.fieldAddr rfl Tryz.runUnderlying105 rfl Tryz.sizeOf28 rfl) rfl) rfl rfl)⟩, ⟨(fun g3 => SO.at (SO.val (PO.load 5 rfl Tryz.isAgg28 rfl rfl) rfl) rfl rfl), (fun g3 => SO.at (SO.val (PO.load 5 rfl Tryz.isAgg28 rfl rfl) rfl) rfl rfl), (fun g3 => SO.at (SO.val (PO.load 5 rfl Tryz.isAgg28 rfl rfl) rfl) rfl rfl)⟩, (fun g3 => SO.eff (EO.store 2 _ rfl rfl Tryz.sizeOf23 rfl rfl rfl rfl) rfl fun _ _ e2 => ⟨g3, fun h_ => absurd (show false = true from h_) Bool.false_ne_true, e2.trans rfl, (AgreeM_refl _ _ rfl)⟩), (fun g3 => SO.eff (EO.storeS 3 6 _ rfl rfl rfl Tryz.sizeOf24 rfl rfl rfl) rfl fun _ _ e2 => ⟨g3, fun h_ => absurd (show false = true from h_) Bool.false_ne_true, e2.trans rfl, (AgreeM_refl _ _ rfl)⟩), (fun g3 => SO.eff (EO.store 4 _ rfl rfl Tryz.sizeOf28 rfl rfl rfl rfl) rfl fun _ _ e2 => ⟨g3, fun h_ => absurd (show false = true from h_) Bool.false_ne_true, e2.trans rfl, (AgreeM_refl _ _ rfl)⟩), trivial⟩ (fun g3 => [gl, F, pt p4 (.cells #[.pointer none] 23 (0, 0)), pt p5 (.cells #[(nils 2)] 24 (0, 0)), pt p7 (.cells #[.int .i64 q] 28 (0, 0)), pt b1 (.cells #[.int .i64 q] 105 (0, 0)), slc 3 1 (nils 2) ([] : List Int).length (fl ic ([] : List Int))]) (fun _ => rfl) (fun g3 => [(12, .pointer (some ⟨b1, 0, none⟩)), (13, .int .i64 q), (0, .pointer (some ⟨p4, 0, none⟩)), (1, .pointer (some ⟨p5, 0, none⟩)), (2, .pointer (some ⟨p7, 0, none⟩)), (4, .pointer (some ⟨b1, 0, none⟩))]) (fun _ => rfl) (fun g3 => ?_)
  exact ⟨_, fun _ s_ => Sat.out (B := [gl, F, ptL 23 p4 _, ptL 24 p5 _]) [0, 1, 2, 3, 4] rfl s_⟩

end Go.Proofs.YtlnionilhagenaaGreatDoor
