/- Printed by gen.py (my own program): Lean functions with the answers of the Go functions, and the proofs that the code comes to them. -/
import Derived.Test.YtlnionilhagenaaGreatDoorStore
import Derived.Test.YtlnionilhagenaaGreatDoorName
namespace Go.Proofs.YtlnionilhagenaaGreatDoor
open Go.RowKit
set_option linter.all false
set_option maxRecDepth 100000
set_option maxHeartbeats 4000000
theorem Tryz.mixedMake : Tryz.prog.follows .mixedOrders = true := by kernel_rfl

/- (*cadence/term.Store).Make -/
def s_St_Make (k : Nat) (S : St) (String : Nd) : Option (St × (Int × Int)) :=
  cond ((decide (String.Op < 1)) || (decide (33 < String.Op)))
    (some (S, 0, 73))
    (cond ((decide (String.W < 0)) || (decide (64 < String.W)))
      (some (S, 0, 5))
      (lt (s_parts String.Op) fun x10 =>
      lt (s_St_is S String.A) fun x14 =>
      cond ((decide (0 < x10)) && (!x14))
        (some (S, 0, 70))
        (lt (s_parts String.Op) fun x17 =>
        lt (s_St_is S String.B) fun x21 =>
        cond ((decide (1 < x17)) && (!x21))
          (some (S, 0, 70))
          (lt (s_parts String.Op) fun x24 =>
          lt (s_St_is S String.C) fun x28 =>
          cond ((decide (2 < x24)) && (!x28))
            (some (S, 0, 70))
            (lt (s_St_spare String) fun x31 =>
            cond x31
              (some (S, 0, 1))
              ((s_St_sorted S String).bind fun x34 =>
              cond (!x34)
                (some (S, 0, 71))
                ((s_St_wide S String).bind fun x37 =>
                cond (!x37)
                  (some (S, 0, 5))
                  (cond (String.Op == 4)
                    ((s_Name k String.Name).bind fun x42 =>
                    cond ((!x42) || (((mget S.names String.Name).isSome) && (((mget S.names String.Name).getD 0) != String.W)))
                      (some ((⟨S.limit, S.all, S.found, S.names⟩ : St), 0, 72))
                      (cond ((mget S.found String).isSome)
                        (some ((⟨S.limit, S.all, S.found, S.names⟩ : St), ((mget S.found String).getD 0), 0))
                        (cond ((decide (0 < S.limit)) && (decide (S.limit ≤ (S.all.length : Int))))
                          (some ((⟨S.limit, S.all, S.found, S.names⟩ : St), 0, 4))
                          (if (S.all.length + 1) * 64 ≤ 140737488355328 then (cond (String.Op == 4)
                            (some ((⟨S.limit, (S.all ++ [String]), (mput S.found String ((S.all ++ [String]).length : Int)), (mput S.names String.Name String.W)⟩ : St), ((S.all ++ [String]).length : Int), 0))
                            (some ((⟨S.limit, (S.all ++ [String]), (mput S.found String ((S.all ++ [String]).length : Int)), S.names⟩ : St), ((S.all ++ [String]).length : Int), 0))) else none))))
                    (cond ((mget S.found String).isSome)
                      (some ((⟨S.limit, S.all, S.found, S.names⟩ : St), ((mget S.found String).getD 0), 0))
                      (cond ((decide (0 < S.limit)) && (decide (S.limit ≤ (S.all.length : Int))))
                        (some ((⟨S.limit, S.all, S.found, S.names⟩ : St), 0, 4))
                        (if (S.all.length + 1) * 64 ≤ 140737488355328 then (cond (String.Op == 4)
                          (some ((⟨S.limit, (S.all ++ [String]), (mput S.found String ((S.all ++ [String]).length : Int)), (mput S.names String.Name String.W)⟩ : St), ((S.all ++ [String]).length : Int), 0))
                          (some ((⟨S.limit, (S.all ++ [String]), (mput S.found String ((S.all ++ [String]).length : Int)), S.names⟩ : St), ((S.all ++ [String]).length : Int), 0))) else none)))))))))))
theorem t_St_Make {k : Nat} {p0 : Nat} {S : St} {String : Nd} {r : St × (Int × Int)}
    (hs : s_St_Make k S String = some r) :
    TriV Tryz.prog 31 [.pointer (some ⟨p0, 0, none⟩), .agg #[.int .i64 String.Op, .int .i64 String.W, .int .i64 String.A, .int .i64 String.B, .int .i64 String.C, .int .u64 String.Num, .string String.Name]] [stAt p0 S] (.tuple #[.int .i64 r.2.1, .int .i64 r.2.2]) [stAt p0 r.1] := by
  unfold s_St_Make at hs
  refine TriL.of Tryz.func31 rfl Tryz.ntmps31 Tryz.results31 rfl (fun w0 F => ?_)
  refine WP.seq ?_
  refine WP.region ?_
  refine WO.step (SO.of rfl (EO.box rfl)) rfl ?_
  rintro _ _ ⟨b1, rfl, rfl⟩
  refine WO.toL [stAt p0 S, F, pt b1 (.cells #[.int .i64 String.Op, .int .i64 String.W, .int .i64 String.A, .int .i64 String.B, .int .i64 String.C, .int .u64 String.Num, .string String.Name] 45 (0, 0))] rfl ?_
  refine WO.val (PO.assign rfl) rfl ?_
  refine WO.val (PO.assign rfl) rfl ?_
  refine WO.nil ?_
  refine WP.seq ?_
  refine WP.seq ?_
  refine WP.regionG (D := [some 12, some 13, some 14, some 15, some 16, some 17, some 18, some 19]) rfl ?_
  refine WO.val (PO.fieldAddr rfl Tryz.runUnderlying45 rfl Tryz.sizeOf3 rfl) rfl ?_
  refine WO.val (PO.load 2 rfl Tryz.isAgg3 rfl rfl) rfl ?_
  refine WO.val (PO.lss rfl rfl) rfl ?_
  refine WO.val (PO.move rfl) rfl ?_
  refine WO.guardF rfl rfl (fun hg2 => (PO.fieldAddr rfl Tryz.runUnderlying45 rfl Tryz.sizeOf3 rfl).vo) rfl ?_
  refine WO.guardF rfl rfl (fun hg3 => (PO.load 2 (evg hg3 rfl) Tryz.isAgg3 rfl rfl).vo) rfl ?_
  refine WO.guardF rfl rfl (fun hg4 => (PO.gtr (evg hg4 rfl) rfl).vo) rfl ?_
  refine WO.val (PO.pickO rfl rfl rfl) rfl ?_
  refine WO.nil ?_
  refine WP.cond rfl (fun h5 => ?_) (fun h5 => ?_)
  · replace hs := cond_t h5 hs
    refine WP.seq ?_
    refine WP.region ?_
    refine WO.val (PO.assign rfl) rfl ?_
    refine WO.val (PO.assign rfl) rfl ?_
    refine WO.nil ?_
    refine WP.ret ?_
    obtain rfl := Option.some.inj hs
    exact ⟨_, _, _, Res.two (RV.tmp rfl) (RV.tmp rfl), ⟨rfl, rfl⟩, fun _ s => s⟩
  · replace hs := cond_f h5 hs
    refine WP.skip ?_
    refine WP.seq ?_
    refine WP.seq ?_
    refine WP.regionG (D := [some 20, some 21, some 22, some 23, some 24, some 25, some 26, some 27]) rfl ?_
    refine WO.val (PO.fieldAddr rfl Tryz.runUnderlying45 rfl Tryz.sizeOf3 rfl) rfl ?_
    refine WO.val (PO.load 2 rfl Tryz.isAgg3 rfl rfl) rfl ?_
    refine WO.val (PO.lss rfl rfl) rfl ?_
    refine WO.val (PO.move rfl) rfl ?_
    refine WO.guardF rfl rfl (fun hg6 => (PO.fieldAddr rfl Tryz.runUnderlying45 rfl Tryz.sizeOf3 rfl).vo) rfl ?_
    refine WO.guardF rfl rfl (fun hg7 => (PO.load 2 (evg hg7 rfl) Tryz.isAgg3 rfl rfl).vo) rfl ?_
    refine WO.guardF rfl rfl (fun hg8 => (PO.gtr (evg hg8 rfl) rfl).vo) rfl ?_
    refine WO.val (PO.pickO rfl rfl rfl) rfl ?_
    refine WO.nil ?_
    refine WP.cond rfl (fun h9 => ?_) (fun h9 => ?_)
    · replace hs := cond_t h9 hs
      refine WP.seq ?_
      refine WP.region ?_
      refine WO.val (PO.assign rfl) rfl ?_
      refine WO.val (PO.assign rfl) rfl ?_
      refine WO.nil ?_
      refine WP.ret ?_
      obtain rfl := Option.some.inj hs
      exact ⟨_, _, _, Res.two (RV.tmp rfl) (RV.tmp rfl), ⟨rfl, rfl⟩, fun _ s => s⟩
    · replace hs := cond_f h9 hs
      refine WP.skip ?_
      refine WP.seq ?_
      refine WP.seq ?_
      refine WP.region ?_
      refine WO.val (PO.fieldAddr rfl Tryz.runUnderlying45 rfl Tryz.sizeOf3 rfl) rfl ?_
      refine WO.val (PO.load 2 rfl Tryz.isAgg3 rfl rfl) rfl ?_
      refine WO.val (PO.fieldAddr rfl Tryz.runUnderlying45 rfl Tryz.sizeOf3 rfl) rfl ?_
      refine WO.val (PO.load 2 rfl Tryz.isAgg3 rfl rfl) rfl ?_
      refine WO.val (PO.fieldAddr rfl Tryz.runUnderlying45 rfl Tryz.sizeOf3 rfl) rfl ?_
      refine WO.val (PO.load 2 rfl Tryz.isAgg3 rfl rfl) rfl ?_
      refine WO.val (PO.build (v := .agg #[.int .i64 String.A, .int .i64 String.B, .int .i64 String.C]) rfl (fun w => by simp [Instr.build, Instr.fill, Value.cells, addr_add', Tryz.zeroValue100, Tryz.runUnderlying100, Tryz.sizeOf3])) rfl ?_
      refine WO.val (PO.move rfl) rfl ?_
      refine WO.nil ?_
      refine WP.block ?_
      refine WP.rounds 4 ?_
      refine WPR.succ ?_
      refine WP.seq ?_
      refine WP.region ?_
      refine WO.val (PO.lss rfl rfl) rfl ?_
      refine WO.nil ?_
      refine WP.seq ?_
      refine WP.condT rfl ?_
      refine WP.skip ?_
      refine WP.seq ?_
      refine WP.block ?_
      refine WP.seq ?_
      refine WP.region ?_
      refine WO.val (PO.move rfl) rfl ?_
      refine WO.val (PO.idxArr (i := 0) rfl rfl Tryz.runUnderlying100 Tryz.sizeOf3 Tryz.isAgg3 rfl rfl rfl) rfl ?_
      refine WO.val (PO.assign rfl) rfl ?_
      refine WO.val (PO.assign rfl) rfl ?_
      refine WO.nil ?_
      refine WP.seq ?_
      refine WP.regionG (D := [some 39, some 40, some 41, some 42, some 43, some 44, some 45, some 46, some 47, some 48, some 49]) rfl ?_
      refine WO.val (PO.move rfl) rfl ?_
      refine WO.val (PO.fieldAddr rfl Tryz.runUnderlying45 rfl Tryz.sizeOf3 rfl) rfl ?_
      refine WO.val (PO.load 2 rfl Tryz.isAgg3 rfl rfl) rfl ?_
      obtain ⟨x10, hx10, hs⟩ := lt_elim hs
      refine WO.vo (VO.call0 Tryz.call42 rfl (t_parts hx10)) rfl ?_
      refine WO.val (PO.lss rfl rfl) rfl ?_
      refine WO.val (PO.move rfl) rfl ?_
      refine WO.guardT rfl rfl (fun hg11 => (PO.move rfl).vo) rfl ?_
      refine WO.guardT rfl rfl (fun hg12 => (PO.move rfl).vo) rfl ?_
      obtain ⟨x14, hx14, hs⟩ := lt_elim hs
      refine WO.guardT rfl rfl (fun hg13 => VO.call1 0 Tryz.call32 (evs_cons (evg hg13 rfl) (evs_cons (evg hg13 rfl) evs_nil)) rfl (t_St_is hx14)) rfl ?_
      refine WO.guardT rfl rfl (fun hg15 => (PO.not (evg hg15 rfl)).vo) rfl ?_
      refine WO.val (PO.pickA rfl rfl rfl) rfl ?_
      refine WO.nil ?_
      refine WP.cond rfl (fun h16 => ?_) (fun h16 => ?_)
      · replace hs := cond_t h16 hs
        refine WP.seq ?_
        refine WP.region ?_
        refine WO.val (PO.assign rfl) rfl ?_
        refine WO.val (PO.assign rfl) rfl ?_
        refine WO.nil ?_
        refine WP.ret ?_
        obtain rfl := Option.some.inj hs
        exact ⟨_, _, _, Res.two (RV.tmp rfl) (RV.tmp rfl), ⟨rfl, rfl⟩, fun _ s => s⟩
      · replace hs := cond_f h16 hs
        refine WP.skip ?_
        refine WP.region ?_
        refine WO.val (PO.addK (c := 1) rfl rfl (by decide)) rfl ?_
        refine WO.val (PO.move rfl) rfl ?_
        refine WO.nil ?_
        refine WPR.succ ?_
        refine WP.seq ?_
        refine WP.region ?_
        refine WO.val (PO.lss rfl rfl) rfl ?_
        refine WO.nil ?_
        refine WP.seq ?_
        refine WP.condT rfl ?_
        refine WP.skip ?_
        refine WP.seq ?_
        refine WP.block ?_
        refine WP.seq ?_
        refine WP.region ?_
        refine WO.val (PO.move rfl) rfl ?_
        refine WO.val (PO.idxArr (i := 1) rfl rfl Tryz.runUnderlying100 Tryz.sizeOf3 Tryz.isAgg3 rfl rfl rfl) rfl ?_
        refine WO.val (PO.assign rfl) rfl ?_
        refine WO.val (PO.assign rfl) rfl ?_
        refine WO.nil ?_
        refine WP.seq ?_
        refine WP.regionG (D := [some 39, some 40, some 41, some 42, some 43, some 44, some 45, some 46, some 47, some 48, some 49]) rfl ?_
        refine WO.val (PO.move rfl) rfl ?_
        refine WO.val (PO.fieldAddr rfl Tryz.runUnderlying45 rfl Tryz.sizeOf3 rfl) rfl ?_
        refine WO.val (PO.load 2 rfl Tryz.isAgg3 rfl rfl) rfl ?_
        obtain ⟨x17, hx17, hs⟩ := lt_elim hs
        refine WO.vo (VO.call0 Tryz.call42 rfl (t_parts hx17)) rfl ?_
        refine WO.val (PO.lss rfl rfl) rfl ?_
        refine WO.val (PO.move rfl) rfl ?_
        refine WO.guardT rfl rfl (fun hg18 => (PO.move rfl).vo) rfl ?_
        refine WO.guardT rfl rfl (fun hg19 => (PO.move rfl).vo) rfl ?_
        obtain ⟨x21, hx21, hs⟩ := lt_elim hs
        refine WO.guardT rfl rfl (fun hg20 => VO.call1 0 Tryz.call32 (evs_cons (evg hg20 rfl) (evs_cons (evg hg20 rfl) evs_nil)) rfl (t_St_is hx21)) rfl ?_
        refine WO.guardT rfl rfl (fun hg22 => (PO.not (evg hg22 rfl)).vo) rfl ?_
        refine WO.val (PO.pickA rfl rfl rfl) rfl ?_
        refine WO.nil ?_
        refine WP.cond rfl (fun h23 => ?_) (fun h23 => ?_)
        · replace hs := cond_t h23 hs
          refine WP.seq ?_
          refine WP.region ?_
          refine WO.val (PO.assign rfl) rfl ?_
          refine WO.val (PO.assign rfl) rfl ?_
          refine WO.nil ?_
          refine WP.ret ?_
          obtain rfl := Option.some.inj hs
          exact ⟨_, _, _, Res.two (RV.tmp rfl) (RV.tmp rfl), ⟨rfl, rfl⟩, fun _ s => s⟩
        · replace hs := cond_f h23 hs
          refine WP.skip ?_
          refine WP.region ?_
          refine WO.val (PO.addK (c := 2) rfl rfl (by decide)) rfl ?_
          refine WO.val (PO.move rfl) rfl ?_
          refine WO.nil ?_
          refine WPR.succ ?_
          refine WP.seq ?_
          refine WP.region ?_
          refine WO.val (PO.lss rfl rfl) rfl ?_
          refine WO.nil ?_
          refine WP.seq ?_
          refine WP.condT rfl ?_
          refine WP.skip ?_
          refine WP.seq ?_
          refine WP.block ?_
          refine WP.seq ?_
          refine WP.region ?_
          refine WO.val (PO.move rfl) rfl ?_
          refine WO.val (PO.idxArr (i := 2) rfl rfl Tryz.runUnderlying100 Tryz.sizeOf3 Tryz.isAgg3 rfl rfl rfl) rfl ?_
          refine WO.val (PO.assign rfl) rfl ?_
          refine WO.val (PO.assign rfl) rfl ?_
          refine WO.nil ?_
          refine WP.seq ?_
          refine WP.regionG (D := [some 39, some 40, some 41, some 42, some 43, some 44, some 45, some 46, some 47, some 48, some 49]) rfl ?_
          refine WO.val (PO.move rfl) rfl ?_
          refine WO.val (PO.fieldAddr rfl Tryz.runUnderlying45 rfl Tryz.sizeOf3 rfl) rfl ?_
          refine WO.val (PO.load 2 rfl Tryz.isAgg3 rfl rfl) rfl ?_
          obtain ⟨x24, hx24, hs⟩ := lt_elim hs
          refine WO.vo (VO.call0 Tryz.call42 rfl (t_parts hx24)) rfl ?_
          refine WO.val (PO.lss rfl rfl) rfl ?_
          refine WO.val (PO.move rfl) rfl ?_
          refine WO.guardT rfl rfl (fun hg25 => (PO.move rfl).vo) rfl ?_
          refine WO.guardT rfl rfl (fun hg26 => (PO.move rfl).vo) rfl ?_
          obtain ⟨x28, hx28, hs⟩ := lt_elim hs
          refine WO.guardT rfl rfl (fun hg27 => VO.call1 0 Tryz.call32 (evs_cons (evg hg27 rfl) (evs_cons (evg hg27 rfl) evs_nil)) rfl (t_St_is hx28)) rfl ?_
          refine WO.guardT rfl rfl (fun hg29 => (PO.not (evg hg29 rfl)).vo) rfl ?_
          refine WO.val (PO.pickA rfl rfl rfl) rfl ?_
          refine WO.nil ?_
          refine WP.cond rfl (fun h30 => ?_) (fun h30 => ?_)
          · replace hs := cond_t h30 hs
            refine WP.seq ?_
            refine WP.region ?_
            refine WO.val (PO.assign rfl) rfl ?_
            refine WO.val (PO.assign rfl) rfl ?_
            refine WO.nil ?_
            refine WP.ret ?_
            obtain rfl := Option.some.inj hs
            exact ⟨_, _, _, Res.two (RV.tmp rfl) (RV.tmp rfl), ⟨rfl, rfl⟩, fun _ s => s⟩
          · replace hs := cond_f h30 hs
            refine WP.skip ?_
            refine WP.region ?_
            refine WO.val (PO.addK (c := 3) rfl rfl (by decide)) rfl ?_
            refine WO.val (PO.move rfl) rfl ?_
            refine WO.nil ?_
            refine WPR.succ ?_
            refine WP.seq ?_
            refine WP.region ?_
            refine WO.val (PO.lss rfl rfl) rfl ?_
            refine WO.nil ?_
            refine WP.seq ?_
            refine WP.condF rfl ?_
            refine WP.exit (inX.hit ?_)
            refine WP.seq ?_
            refine WP.block ?_
            refine WP.seq ?_
            refine WP.region ?_
            refine WO.val (PO.loadAgg 2 rfl Tryz.isAgg45 Tryz.sizeOf45 rfl rfl rfl) rfl ?_
            obtain ⟨x31, hx31, hs⟩ := lt_elim hs
            have tx32 := t_St_spare hx31
            refine WO.vo (VO.call0 Tryz.call55 rfl tx32) rfl ?_
            refine WO.val (PO.assign rfl) rfl ?_
            refine WO.nil ?_
            refine WP.cond rfl (fun h33 => ?_) (fun h33 => ?_)
            · replace hs := cond_t h33 hs
              refine WP.seq ?_
              refine WP.region ?_
              refine WO.val (PO.assign rfl) rfl ?_
              refine WO.val (PO.assign rfl) rfl ?_
              refine WO.nil ?_
              refine WP.ret ?_
              obtain rfl := Option.some.inj hs
              exact ⟨_, _, _, Res.two (RV.tmp rfl) (RV.tmp rfl), ⟨rfl, rfl⟩, fun _ s => s⟩
            · replace hs := cond_f h33 hs
              refine WP.seq ?_
              refine WP.region ?_
              refine WO.val (PO.move rfl) rfl ?_
              refine WO.val (PO.loadAgg 2 rfl Tryz.isAgg45 Tryz.sizeOf45 rfl rfl rfl) rfl ?_
              obtain ⟨x34, hx34, hs⟩ := bind_elim hs
              have tx35 := t_St_sorted (p0 := p0) hx34
              refine WO.vo (VO.call1 0 Tryz.call56 rfl rfl tx35) rfl ?_
              refine WO.val (PO.not rfl) rfl ?_
              refine WO.val (PO.assign rfl) rfl ?_
              refine WO.nil ?_
              refine WP.cond rfl (fun h36 => ?_) (fun h36 => ?_)
              · replace hs := cond_t h36 hs
                refine WP.seq ?_
                refine WP.region ?_
                refine WO.val (PO.assign rfl) rfl ?_
                refine WO.val (PO.assign rfl) rfl ?_
                refine WO.nil ?_
                refine WP.ret ?_
                obtain rfl := Option.some.inj hs
                exact ⟨_, _, _, Res.two (RV.tmp rfl) (RV.tmp rfl), ⟨rfl, rfl⟩, fun _ s => s⟩
              · replace hs := cond_f h36 hs
                refine WP.seq ?_
                refine WP.region ?_
                refine WO.val (PO.move rfl) rfl ?_
                refine WO.val (PO.loadAgg 2 rfl Tryz.isAgg45 Tryz.sizeOf45 rfl rfl rfl) rfl ?_
                obtain ⟨x37, hx37, hs⟩ := bind_elim hs
                have tx38 := t_St_wide (p0 := p0) hx37
                refine WO.vo (VO.call1 0 Tryz.call57 rfl rfl tx38) rfl ?_
                refine WO.val (PO.not rfl) rfl ?_
                refine WO.val (PO.assign rfl) rfl ?_
                refine WO.nil ?_
                refine WP.cond rfl (fun h39 => ?_) (fun h39 => ?_)
                · replace hs := cond_t h39 hs
                  refine WP.seq ?_
                  refine WP.region ?_
                  refine WO.val (PO.assign rfl) rfl ?_
                  refine WO.val (PO.assign rfl) rfl ?_
                  refine WO.nil ?_
                  refine WP.ret ?_
                  obtain rfl := Option.some.inj hs
                  exact ⟨_, _, _, Res.two (RV.tmp rfl) (RV.tmp rfl), ⟨rfl, rfl⟩, fun _ s => s⟩
                · replace hs := cond_f h39 hs
                  refine WP.skip ?_
                  refine WP.seq ?_
                  refine WP.seq ?_
                  refine WP.region ?_
                  refine WO.val (PO.fieldAddr rfl Tryz.runUnderlying45 rfl Tryz.sizeOf3 rfl) rfl ?_
                  refine WO.val (PO.load 2 rfl Tryz.isAgg3 rfl rfl) rfl ?_
                  refine WO.val (PO.eql rfl rfl) rfl ?_
                  refine WO.nil ?_
                  refine WP.cond rfl (fun h40 => ?_) (fun h40 => ?_)
                  · replace hs := cond_t h40 hs
                    refine WP.seq ?_
                    refine WP.openSt (fun v0 mf0 mn0 => ?_)
                    refine WP.draw (γ := Unit) Tryz.mixedMake [some 68, some 69, some 70, some 71, some 72, some 73, some 74, some 67, some 75, some 76, some 8, some 9] rfl [(0, .pointer (some ⟨p0, 0, none⟩)), (3, .pointer (some ⟨b1, 0, none⟩))] ⟨rfl, rfl, trivial⟩ (fun g41 => [.pointer (some ⟨p0, 0, none⟩), .pointer (some ⟨p0, 0, none⟩), .pointer (some ⟨p0, 3, none⟩), .map (some mn0), .pointer (some ⟨b1, 6, none⟩), .string String.Name, .tuple #[.int .i64 ((mget S.names String.Name).getD 0), .bool ((mget S.names String.Name).isSome)], .tuple #[.int .i64 ((mget S.names String.Name).getD 0), .bool ((mget S.names String.Name).isSome)], .int .i64 ((mget S.names String.Name).getD 0), .bool ((mget S.names String.Name).isSome), .int .i64 ((mget S.names String.Name).getD 0), .bool ((mget S.names String.Name).isSome)]) [⟨[], 0, 0, false⟩, ⟨[0], 0, 0, false⟩, ⟨[1], 0, 0, false⟩, ⟨[2], 0, 0, false⟩, ⟨[], 0, 0, false⟩, ⟨[4], 0, 0, false⟩, ⟨[3, 5], 0, 0, false⟩, ⟨[6], 0, 0, false⟩, ⟨[7], 0, 0, false⟩, ⟨[7], 0, 0, false⟩, ⟨[8, 8], 0, 0, false⟩, ⟨[9, 9], 0, 0, false⟩] [] (fun g41 => [[pt p0 (.cells #[.int .i64 S.limit, v0, .map (some mf0), .map (some mn0)] 80 (0, 0)), slc 45 7 v0 S.all.length (fl Nd.cells S.all), mapAt Nd.val iv mf0 S.found, mapAt sv iv mn0 S.names, F, pt b1 (.cells #[.int .i64 String.Op, .int .i64 String.W, .int .i64 String.A, .int .i64 String.B, .int .i64 String.C, .int .u64 String.Num, .string String.Name] 45 (0, 0))]]) rfl rfl rfl ⟨(fun g41 => SO.at (SO.val (PO.move rfl) rfl) rfl rfl), (fun g41 => SO.at (SO.val (PO.nilCheck rfl) rfl) rfl rfl), (fun g41 => SO.at (SO.val (PO.fieldAddr rfl Tryz.runUnderlying80 rfl Tryz.sizeOf69 rfl) rfl) rfl rfl), (fun g41 => SO.at (SO.val (PO.load 0 rfl Tryz.isAgg69 rfl rfl) rfl) rfl rfl), (fun g41 => SO.at (SO.val (PO.fieldAddr rfl Tryz.runUnderlying45 rfl Tryz.sizeOf9 rfl) rfl) rfl rfl), (fun g41 => SO.at (SO.val (PO.load 5 rfl Tryz.isAgg9 rfl rfl) rfl) rfl rfl), (fun g41 => SO.at (SO.val (PO.lookup2 (a := String.Name) (z := 0) 3 str_key rfl rfl Tryz.runUnderlying69 Tryz.zeroValue3 rfl) rfl) rfl rfl), (fun g41 => SO.at (SO.val (PO.move rfl) rfl) rfl rfl), (fun g41 => SO.at (SO.val (PO.extract rfl rfl) rfl) rfl rfl), (fun g41 => SO.at (SO.val (PO.extract rfl rfl) rfl) rfl rfl), (fun g41 => SO.at (SO.val (PO.assign rfl) rfl) rfl rfl), (fun g41 => SO.at (SO.val (PO.assign rfl) rfl) rfl rfl), trivial⟩ (fun g41 => [pt p0 (.cells #[.int .i64 S.limit, v0, .map (some mf0), .map (some mn0)] 80 (0, 0)), slc 45 7 v0 S.all.length (fl Nd.cells S.all), mapAt Nd.val iv mf0 S.found, mapAt sv iv mn0 S.names, F, pt b1 (.cells #[.int .i64 String.Op, .int .i64 String.W, .int .i64 String.A, .int .i64 String.B, .int .i64 String.C, .int .u64 String.Num, .string String.Name] 45 (0, 0))]) (fun _ => rfl) (fun g41 => [(68, .pointer (some ⟨p0, 0, none⟩)), (69, .pointer (some ⟨p0, 0, none⟩)), (70, .pointer (some ⟨p0, 3, none⟩)), (71, .map (some mn0)), (72, .pointer (some ⟨b1, 6, none⟩)), (73, .string String.Name), (74, .tuple #[.int .i64 ((mget S.names String.Name).getD 0), .bool ((mget S.names String.Name).isSome)]), (67, .tuple #[.int .i64 ((mget S.names String.Name).getD 0), .bool ((mget S.names String.Name).isSome)]), (75, .int .i64 ((mget S.names String.Name).getD 0)), (76, .bool ((mget S.names String.Name).isSome)), (8, .int .i64 ((mget S.names String.Name).getD 0)), (9, .bool ((mget S.names String.Name).isSome)), (0, .pointer (some ⟨p0, 0, none⟩)), (3, .pointer (some ⟨b1, 0, none⟩))]) (fun _ => rfl) (fun g41 => ?_)
                    refine WP.seq ?_
                    refine WP.regionG (D := [some 77, some 78, some 79, some 80, some 81, some 82, some 83, some 84, some 85, some 86, some 87, some 88, some 89]) rfl ?_
                    refine WO.val (PO.fieldAddr rfl Tryz.runUnderlying45 rfl Tryz.sizeOf9 rfl) rfl ?_
                    refine WO.val (PO.load 5 rfl Tryz.isAgg9 rfl rfl) rfl ?_
                    obtain ⟨x42, hx42, hs⟩ := bind_elim hs
                    refine WO.vo (VO.call0 Tryz.call35 rfl (t_Name hx42)) rfl ?_
                    refine WO.val (PO.not rfl) rfl ?_
                    refine WO.val (PO.move rfl) rfl ?_
                    refine WO.guardF rfl rfl (fun hg43 => (PO.move rfl).vo) rfl ?_
                    refine WO.guardF rfl rfl (fun hg44 => (PO.move (evg hg44 rfl)).vo) rfl ?_
                    refine WO.guardGT rfl rfl (fun hg45 => (PO.move rfl).vo) rfl ?_
                    refine WO.guardGT rfl rfl (fun hg46 => (PO.fieldAddr rfl Tryz.runUnderlying45 rfl Tryz.sizeOf3 rfl).vo) rfl ?_
                    refine WO.guardGT rfl rfl (fun hg47 => (PO.load 5 (evg hg47 rfl) Tryz.isAgg3 rfl rfl).vo) rfl ?_
                    refine WO.guardGT rfl rfl (fun hg48 => (PO.neq (evg hg48 rfl) (evg hg48 rfl)).vo) rfl ?_
                    refine WO.guardF rfl rfl (fun hg49 => (PO.pickAG hg49 (evg hg49 rfl) rfl rfl).vo) rfl ?_
                    refine WO.val (PO.pickO rfl rfl rfl) rfl ?_
                    refine WO.nil ?_
                    refine WP.cond rfl (fun h50 => ?_) (fun h50 => ?_)
                    · replace hs := cond_t h50 hs
                      refine WP.seq ?_
                      refine WP.region ?_
                      refine WO.val (PO.assign rfl) rfl ?_
                      refine WO.val (PO.assign rfl) rfl ?_
                      refine WO.nil ?_
                      refine WP.ret ?_
                      obtain rfl := Option.some.inj hs
                      exact ⟨_, _, _, Res.two (RV.tmp rfl) (RV.tmp rfl), ⟨rfl, rfl⟩, fun _ s => stAt_close (s := (⟨S.limit, S.all, S.found, S.names⟩ : St)) s⟩
                    · replace hs := cond_f h50 hs
                      refine WP.skip ?_
                      refine WP.seq ?_
                      refine WP.seq ?_
                      refine WP.draw (γ := Unit) Tryz.mixedMake [some 91, some 92, some 93, some 94, some 95, some 96, some 90, some 97, some 98, some 10, some 11] rfl [(3, .pointer (some ⟨b1, 0, none⟩)), (0, .pointer (some ⟨p0, 0, none⟩))] ⟨rfl, rfl, trivial⟩ (fun g51 => [.pointer (some ⟨p0, 0, none⟩), .pointer (some ⟨p0, 0, none⟩), .pointer (some ⟨p0, 2, none⟩), .map (some mf0), .agg #[.int .i64 String.Op, .int .i64 String.W, .int .i64 String.A, .int .i64 String.B, .int .i64 String.C, .int .u64 String.Num, .string String.Name], .tuple #[.int .i64 ((mget S.found String).getD 0), .bool ((mget S.found String).isSome)], .tuple #[.int .i64 ((mget S.found String).getD 0), .bool ((mget S.found String).isSome)], .int .i64 ((mget S.found String).getD 0), .bool ((mget S.found String).isSome), .int .i64 ((mget S.found String).getD 0), .bool ((mget S.found String).isSome)]) [⟨[], 0, 0, false⟩, ⟨[0], 0, 0, false⟩, ⟨[1], 0, 0, false⟩, ⟨[2], 0, 0, false⟩, ⟨[], 0, 0, false⟩, ⟨[3, 4], 0, 0, false⟩, ⟨[5], 0, 0, false⟩, ⟨[6], 0, 0, false⟩, ⟨[6], 0, 0, false⟩, ⟨[7, 7], 0, 0, false⟩, ⟨[8, 8], 0, 0, false⟩] [] (fun g51 => [[pt p0 (.cells #[.int .i64 S.limit, v0, .map (some mf0), .map (some mn0)] 80 (0, 0)), slc 45 7 v0 S.all.length (fl Nd.cells S.all), mapAt Nd.val iv mf0 S.found, mapAt sv iv mn0 S.names, F, pt b1 (.cells #[.int .i64 String.Op, .int .i64 String.W, .int .i64 String.A, .int .i64 String.B, .int .i64 String.C, .int .u64 String.Num, .string String.Name] 45 (0, 0))]]) rfl rfl rfl ⟨(fun g51 => SO.at (SO.val (PO.move rfl) rfl) rfl rfl), (fun g51 => SO.at (SO.val (PO.nilCheck rfl) rfl) rfl rfl), (fun g51 => SO.at (SO.val (PO.fieldAddr rfl Tryz.runUnderlying80 rfl Tryz.sizeOf78 rfl) rfl) rfl rfl), (fun g51 => SO.at (SO.val (PO.load 0 rfl Tryz.isAgg78 rfl rfl) rfl) rfl rfl), (fun g51 => SO.at (SO.val (PO.loadAgg 5 rfl Tryz.isAgg45 Tryz.sizeOf45 rfl rfl rfl) rfl) rfl rfl), (fun g51 => SO.at (SO.val (PO.lookup2 (a := String) (z := 0) 2 node_key rfl rfl Tryz.runUnderlying78 Tryz.zeroValue3 rfl) rfl) rfl rfl), (fun g51 => SO.at (SO.val (PO.move rfl) rfl) rfl rfl), (fun g51 => SO.at (SO.val (PO.extract rfl rfl) rfl) rfl rfl), (fun g51 => SO.at (SO.val (PO.extract rfl rfl) rfl) rfl rfl), (fun g51 => SO.at (SO.val (PO.assign rfl) rfl) rfl rfl), (fun g51 => SO.at (SO.val (PO.assign rfl) rfl) rfl rfl), trivial⟩ (fun g51 => [pt p0 (.cells #[.int .i64 S.limit, v0, .map (some mf0), .map (some mn0)] 80 (0, 0)), slc 45 7 v0 S.all.length (fl Nd.cells S.all), mapAt Nd.val iv mf0 S.found, mapAt sv iv mn0 S.names, F, pt b1 (.cells #[.int .i64 String.Op, .int .i64 String.W, .int .i64 String.A, .int .i64 String.B, .int .i64 String.C, .int .u64 String.Num, .string String.Name] 45 (0, 0))]) (fun _ => rfl) (fun g51 => [(91, .pointer (some ⟨p0, 0, none⟩)), (92, .pointer (some ⟨p0, 0, none⟩)), (93, .pointer (some ⟨p0, 2, none⟩)), (94, .map (some mf0)), (95, .agg #[.int .i64 String.Op, .int .i64 String.W, .int .i64 String.A, .int .i64 String.B, .int .i64 String.C, .int .u64 String.Num, .string String.Name]), (96, .tuple #[.int .i64 ((mget S.found String).getD 0), .bool ((mget S.found String).isSome)]), (90, .tuple #[.int .i64 ((mget S.found String).getD 0), .bool ((mget S.found String).isSome)]), (97, .int .i64 ((mget S.found String).getD 0)), (98, .bool ((mget S.found String).isSome)), (10, .int .i64 ((mget S.found String).getD 0)), (11, .bool ((mget S.found String).isSome)), (3, .pointer (some ⟨b1, 0, none⟩)), (0, .pointer (some ⟨p0, 0, none⟩))]) (fun _ => rfl) (fun g51 => ?_)
                      refine WP.seq ?_
                      refine WP.region ?_
                      refine WO.val (PO.move rfl) rfl ?_
                      refine WO.nil ?_
                      refine WP.cond rfl (fun h52 => ?_) (fun h52 => ?_)
                      · replace hs := cond_t h52 hs
                        refine WP.seq ?_
                        refine WP.region ?_
                        refine WO.val (PO.move rfl) rfl ?_
                        refine WO.val (PO.assign rfl) rfl ?_
                        refine WO.val (PO.assign rfl) rfl ?_
                        refine WO.nil ?_
                        refine WP.ret ?_
                        obtain rfl := Option.some.inj hs
                        exact ⟨_, _, _, Res.two (RV.tmp rfl) (RV.tmp rfl), ⟨rfl, rfl⟩, fun _ s => stAt_close (s := (⟨S.limit, S.all, S.found, S.names⟩ : St)) s⟩
                      · replace hs := cond_f h52 hs
                        refine WP.skip ?_
                        refine WP.seq ?_
                        refine WP.seq ?_
                        refine WP.draw (γ := Unit) Tryz.mixedMake [some 101, some 102, some 103, some 104, some 105, some 106, some 107, some 108, some 109, some 110, some 111, some 112, some 113, some 114, some 115, some 116, some 117] rfl [(0, .pointer (some ⟨p0, 0, none⟩)), (3, .pointer (some ⟨b1, 0, none⟩))] ⟨rfl, rfl, trivial⟩ (fun g53 => [.pointer (some ⟨p0, 0, none⟩), .pointer (some ⟨p0, 0, none⟩), .pointer (some ⟨p0, 0, none⟩), .int .i64 S.limit, .bool (decide (0 < S.limit)), .bool (decide (0 < S.limit)), gd (decide (0 < S.limit)) (.pointer (some ⟨p0, 0, none⟩)), gd (decide (0 < S.limit)) (.pointer (some ⟨p0, 0, none⟩)), gd (decide (0 < S.limit)) (.pointer (some ⟨p0, 1, none⟩)), gd (decide (0 < S.limit)) (v0), gd (decide (0 < S.limit)) (.int .i64 (S.all.length : Int)), gd (decide (0 < S.limit)) (.pointer (some ⟨p0, 0, none⟩)), gd (decide (0 < S.limit)) (.pointer (some ⟨p0, 0, none⟩)), gd (decide (0 < S.limit)) (.pointer (some ⟨p0, 0, none⟩)), gd (decide (0 < S.limit)) (.int .i64 S.limit), gd (decide (0 < S.limit)) (.bool (decide (S.limit ≤ (S.all.length : Int)))), .bool ((decide (0 < S.limit)) && (decide (S.limit ≤ (S.all.length : Int))))]) [⟨[], 0, 0, false⟩, ⟨[0], 0, 0, false⟩, ⟨[1], 0, 0, false⟩, ⟨[2], 0, 0, false⟩, ⟨[3], 0, 0, false⟩, ⟨[4], 0, 0, false⟩, ⟨[5], 0, 0, false⟩, ⟨[6, 5], 0, 0, false⟩, ⟨[7, 5], 0, 0, false⟩, ⟨[8, 5], 0, 0, false⟩, ⟨[9, 5], 0, 0, false⟩, ⟨[5], 0, 0, false⟩, ⟨[11, 5], 0, 0, false⟩, ⟨[12, 5], 0, 0, false⟩, ⟨[13, 5], 0, 0, false⟩, ⟨[10, 14, 5], 0, 0, false⟩, ⟨[5, 15], 0, 0, false⟩] [] (fun g53 => [[pt p0 (.cells #[.int .i64 S.limit, v0, .map (some mf0), .map (some mn0)] 80 (0, 0)), slc 45 7 v0 S.all.length (fl Nd.cells S.all), mapAt Nd.val iv mf0 S.found, mapAt sv iv mn0 S.names, F, pt b1 (.cells #[.int .i64 String.Op, .int .i64 String.W, .int .i64 String.A, .int .i64 String.B, .int .i64 String.C, .int .u64 String.Num, .string String.Name] 45 (0, 0))]]) rfl rfl rfl ⟨(fun g53 => SO.at (SO.val (PO.move rfl) rfl) rfl rfl), (fun g53 => SO.at (SO.val (PO.nilCheck rfl) rfl) rfl rfl), (fun g53 => SO.at (SO.val (PO.fieldAddr rfl Tryz.runUnderlying80 rfl Tryz.sizeOf3 rfl) rfl) rfl rfl), (fun g53 => SO.at (SO.val (PO.load 0 rfl Tryz.isAgg3 rfl rfl) rfl) rfl rfl), (fun g53 => SO.at (SO.val (PO.gtr rfl rfl) rfl) rfl rfl), (fun g53 => SO.at (SO.val (PO.move rfl) rfl) rfl rfl), (fun g53 => SO.at (SO.guardT rfl rfl (fun hg54 => (PO.move rfl).vo)) rfl rfl), (fun g53 => SO.at (SO.guardT rfl rfl (fun hg55 => (PO.nilCheck (evg hg55 rfl)).vo)) rfl rfl), (fun g53 => SO.at (SO.guardT rfl rfl (fun hg56 => (PO.fieldAddr (evg hg56 rfl) Tryz.runUnderlying80 rfl Tryz.sizeOf77 rfl).vo)) rfl rfl), (fun g53 => SO.at (SO.guardT rfl rfl (fun hg57 => (PO.load 0 (evg hg57 rfl) Tryz.isAgg77 rfl rfl).vo)) rfl rfl), (fun g53 => SO.at (SO.guardT rfl rfl (fun hg58 => (PO.lenL 1 (evg hg58 rfl) Tryz.runUnderlying77 rfl).vo)) rfl rfl), (fun g53 => SO.at (SO.guardT rfl rfl (fun hg59 => (PO.move rfl).vo)) rfl rfl), (fun g53 => SO.at (SO.guardT rfl rfl (fun hg60 => (PO.nilCheck (evg hg60 rfl)).vo)) rfl rfl), (fun g53 => SO.at (SO.guardT rfl rfl (fun hg61 => (PO.fieldAddr (evg hg61 rfl) Tryz.runUnderlying80 rfl Tryz.sizeOf3 rfl).vo)) rfl rfl), (fun g53 => SO.at (SO.guardT rfl rfl (fun hg62 => (PO.load 0 (evg hg62 rfl) Tryz.isAgg3 rfl rfl).vo)) rfl rfl), (fun g53 => SO.at (SO.guardT rfl rfl (fun hg63 => (PO.geq (evg hg63 rfl) (evg hg63 rfl)).vo)) rfl rfl), (fun g53 => SO.at (SO.val (PO.pickA rfl rfl rfl) rfl) rfl rfl), trivial⟩ (fun g53 => [pt p0 (.cells #[.int .i64 S.limit, v0, .map (some mf0), .map (some mn0)] 80 (0, 0)), slc 45 7 v0 S.all.length (fl Nd.cells S.all), mapAt Nd.val iv mf0 S.found, mapAt sv iv mn0 S.names, F, pt b1 (.cells #[.int .i64 String.Op, .int .i64 String.W, .int .i64 String.A, .int .i64 String.B, .int .i64 String.C, .int .u64 String.Num, .string String.Name] 45 (0, 0))]) (fun _ => rfl) (fun g53 => [(101, .pointer (some ⟨p0, 0, none⟩)), (102, .pointer (some ⟨p0, 0, none⟩)), (103, .pointer (some ⟨p0, 0, none⟩)), (104, .int .i64 S.limit), (105, .bool (decide (0 < S.limit))), (106, .bool (decide (0 < S.limit))), (107, gd (decide (0 < S.limit)) (.pointer (some ⟨p0, 0, none⟩))), (108, gd (decide (0 < S.limit)) (.pointer (some ⟨p0, 0, none⟩))), (109, gd (decide (0 < S.limit)) (.pointer (some ⟨p0, 1, none⟩))), (110, gd (decide (0 < S.limit)) (v0)), (111, gd (decide (0 < S.limit)) (.int .i64 (S.all.length : Int))), (112, gd (decide (0 < S.limit)) (.pointer (some ⟨p0, 0, none⟩))), (113, gd (decide (0 < S.limit)) (.pointer (some ⟨p0, 0, none⟩))), (114, gd (decide (0 < S.limit)) (.pointer (some ⟨p0, 0, none⟩))), (115, gd (decide (0 < S.limit)) (.int .i64 S.limit)), (116, gd (decide (0 < S.limit)) (.bool (decide (S.limit ≤ (S.all.length : Int))))), (117, .bool ((decide (0 < S.limit)) && (decide (S.limit ≤ (S.all.length : Int))))), (0, .pointer (some ⟨p0, 0, none⟩)), (3, .pointer (some ⟨b1, 0, none⟩))]) (fun _ => rfl) (fun g53 => ?_)
                        refine WP.cond rfl (fun h64 => ?_) (fun h64 => ?_)
                        · replace hs := cond_t h64 hs
                          refine WP.seq ?_
                          refine WP.region ?_
                          refine WO.val (PO.assign rfl) rfl ?_
                          refine WO.val (PO.assign rfl) rfl ?_
                          refine WO.nil ?_
                          refine WP.ret ?_
                          obtain rfl := Option.some.inj hs
                          exact ⟨_, _, _, Res.two (RV.tmp rfl) (RV.tmp rfl), ⟨rfl, rfl⟩, fun _ s => stAt_close (s := (⟨S.limit, S.all, S.found, S.names⟩ : St)) s⟩
                        · replace hs := cond_f h64 hs
                          refine WP.skip ?_
                          refine WP.seq ?_
                          obtain ⟨hc66, hs⟩ := check_elim hs
                          refine WP.draw (γ := Nat × Value) Tryz.mixedMake [some 118, some 119, some 120, some 121, some 122, some 123, some 124, some 125, some 126, some 127, none] rfl [(3, .pointer (some ⟨b1, 0, none⟩)), (0, .pointer (some ⟨p0, 0, none⟩))] ⟨rfl, rfl, trivial⟩ (fun g65 => [.pointer (some ⟨p0, 0, none⟩), .pointer (some ⟨p0, 0, none⟩), .pointer (some ⟨p0, 0, none⟩), .pointer (some ⟨p0, 1, none⟩), v0, .agg #[.int .i64 String.Op, .int .i64 String.W, .int .i64 String.A, .int .i64 String.B, .int .i64 String.C, .int .u64 String.Num, .string String.Name], .slice (some ⟨g65.1, 0, none⟩) 1 1, g65.2, .pointer (some ⟨p0, 0, none⟩), .pointer (some ⟨p0, 1, none⟩), undef]) [⟨[], 0, 2, false⟩, ⟨[], 0, 1, false⟩, ⟨[1], 0, 1, false⟩, ⟨[2], 0, 1, false⟩, ⟨[3], 0, 1, false⟩, ⟨[], 0, 0, false⟩, ⟨[5], 0, 0, true⟩, ⟨[4, 6], 1, 0, true⟩, ⟨[0, 0], 2, 0, false⟩, ⟨[8], 2, 0, false⟩, ⟨[9, 7, 7, 7], 2, 0, true⟩] [6, 7, 10] (fun g65 => [[pt p0 (.cells #[.int .i64 S.limit, v0, .map (some mf0), .map (some mn0)] 80 (0, 0)), slc 45 7 v0 S.all.length (fl Nd.cells S.all), mapAt Nd.val iv mf0 S.found, mapAt sv iv mn0 S.names, F, pt b1 (.cells #[.int .i64 String.Op, .int .i64 String.W, .int .i64 String.A, .int .i64 String.B, .int .i64 String.C, .int .u64 String.Num, .string String.Name] 45 (0, 0))], [pt p0 (.cells #[.int .i64 S.limit, v0, .map (some mf0), .map (some mn0)] 80 (0, 0)), slc 45 7 v0 S.all.length (fl Nd.cells S.all), mapAt Nd.val iv mf0 S.found, mapAt sv iv mn0 S.names, F, pt b1 (.cells #[.int .i64 String.Op, .int .i64 String.W, .int .i64 String.A, .int .i64 String.B, .int .i64 String.C, .int .u64 String.Num, .string String.Name] 45 (0, 0)), pt g65.1 (.cells #[.int .i64 String.Op, .int .i64 String.W, .int .i64 String.A, .int .i64 String.B, .int .i64 String.C, .int .u64 String.Num, .string String.Name] 45 (0, 0))], [pt p0 (.cells #[.int .i64 S.limit, v0, .map (some mf0), .map (some mn0)] 80 (0, 0)), slc 45 7 g65.2 (S.all ++ [String]).length (fl Nd.cells (S.all ++ [String])), mapAt Nd.val iv mf0 S.found, mapAt sv iv mn0 S.names, F, pt b1 (.cells #[.int .i64 String.Op, .int .i64 String.W, .int .i64 String.A, .int .i64 String.B, .int .i64 String.C, .int .u64 String.Num, .string String.Name] 45 (0, 0)), pt g65.1 (.cells #[.int .i64 String.Op, .int .i64 String.W, .int .i64 String.A, .int .i64 String.B, .int .i64 String.C, .int .u64 String.Num, .string String.Name] 45 (0, 0))], [pt p0 (.cells #[.int .i64 S.limit, g65.2, .map (some mf0), .map (some mn0)] 80 (0, 0)), slc 45 7 g65.2 (S.all ++ [String]).length (fl Nd.cells (S.all ++ [String])), mapAt Nd.val iv mf0 S.found, mapAt sv iv mn0 S.names, F, pt b1 (.cells #[.int .i64 String.Op, .int .i64 String.W, .int .i64 String.A, .int .i64 String.B, .int .i64 String.C, .int .u64 String.Num, .string String.Name] 45 (0, 0)), pt g65.1 (.cells #[.int .i64 String.Op, .int .i64 String.W, .int .i64 String.A, .int .i64 String.B, .int .i64 String.C, .int .u64 String.Num, .string String.Name] 45 (0, 0))]]) rfl rfl rfl ⟨⟨(fun g65 => SO.at (SO.val (PO.move rfl) rfl) rfl rfl), (fun g65 => SO.at (SO.val (PO.move rfl) rfl) rfl rfl), (fun g65 => SO.at (SO.val (PO.move rfl) rfl) rfl rfl)⟩, ⟨(fun g65 => SO.at (SO.val (PO.move rfl) rfl) rfl rfl), (fun g65 => SO.at (SO.val (PO.move rfl) rfl) rfl rfl)⟩, ⟨(fun g65 => SO.at (SO.val (PO.nilCheck rfl) rfl) rfl rfl), (fun g65 => SO.at (SO.val (PO.nilCheck rfl) rfl) rfl rfl)⟩, ⟨(fun g65 => SO.at (SO.val (PO.fieldAddr rfl Tryz.runUnderlying80 rfl Tryz.sizeOf77 rfl) rfl) rfl rfl), (fun g65 => SO.at (SO.val (PO.fieldAddr rfl Tryz.runUnderlying80 rfl Tryz.sizeOf77 rfl) rfl) rfl rfl)⟩, ⟨(fun g65 => SO.at (SO.val (PO.load 0 rfl Tryz.isAgg77 rfl rfl) rfl) rfl rfl), (fun g65 => SO.at (SO.val (PO.load 0 rfl Tryz.isAgg77 rfl rfl) rfl) rfl rfl)⟩, (fun g65 => SO.at (SO.val (PO.loadAgg 5 rfl Tryz.isAgg45 Tryz.sizeOf45 rfl rfl rfl) rfl) rfl rfl), (fun g65 => SO.eff (EO.buildSlice1 rfl Tryz.runUnderlying77 Tryz.sizeOf45 Tryz.zeroValue45 rfl rfl rfl rfl) rfl fun _ _ ⟨b_, e1, e2⟩ => ⟨(b_, g65.2), fun _ => by rw [e1]; rfl, e2.trans rfl, ⟨rfl, rfl, rfl, rfl, rfl, rfl, trivial⟩⟩), (fun g65 => SO.eff (EO.appendL (c := Nd.cells) (a := String) 1 6 (fun _ => rfl) Tryz.typeInfo45 rfl rfl rfl rfl Tryz.runUnderlying77 Tryz.underlying77 rfl rfl rfl rfl rfl rfl rfl rfl hc66) rfl fun v_ _ e2 => ⟨(g65.1, v_), fun _ => rfl, e2.trans rfl, ⟨rfl, rfl, rfl, rfl, rfl, rfl, rfl, trivial⟩⟩), (fun g65 => SO.at (SO.val (PO.nilCheck rfl) rfl) rfl rfl), (fun g65 => SO.at (SO.val (PO.fieldAddr rfl Tryz.runUnderlying80 rfl Tryz.sizeOf77 rfl) rfl) rfl rfl), (fun g65 => SO.eff (EO.storeS 0 1 _ rfl rfl rfl Tryz.sizeOf77 rfl rfl rfl) rfl fun _ _ e2 => ⟨g65, fun h_ => absurd (show false = true from h_) Bool.false_ne_true, e2.trans rfl, (AgreeM_refl _ _ rfl)⟩), trivial⟩ (fun g65 => [pt p0 (.cells #[.int .i64 S.limit, g65.2, .map (some mf0), .map (some mn0)] 80 (0, 0)), slc 45 7 g65.2 (S.all ++ [String]).length (fl Nd.cells (S.all ++ [String])), mapAt Nd.val iv mf0 S.found, mapAt sv iv mn0 S.names, F, pt b1 (.cells #[.int .i64 String.Op, .int .i64 String.W, .int .i64 String.A, .int .i64 String.B, .int .i64 String.C, .int .u64 String.Num, .string String.Name] 45 (0, 0)), pt g65.1 (.cells #[.int .i64 String.Op, .int .i64 String.W, .int .i64 String.A, .int .i64 String.B, .int .i64 String.C, .int .u64 String.Num, .string String.Name] 45 (0, 0))]) (fun _ => rfl) (fun g65 => [(118, .pointer (some ⟨p0, 0, none⟩)), (119, .pointer (some ⟨p0, 0, none⟩)), (120, .pointer (some ⟨p0, 0, none⟩)), (121, .pointer (some ⟨p0, 1, none⟩)), (122, v0), (123, .agg #[.int .i64 String.Op, .int .i64 String.W, .int .i64 String.A, .int .i64 String.B, .int .i64 String.C, .int .u64 String.Num, .string String.Name]), (124, .slice (some ⟨g65.1, 0, none⟩) 1 1), (125, g65.2), (126, .pointer (some ⟨p0, 0, none⟩)), (127, .pointer (some ⟨p0, 1, none⟩)), (3, .pointer (some ⟨b1, 0, none⟩)), (0, .pointer (some ⟨p0, 0, none⟩))]) (fun _ => rfl) (fun g65 => ?_)
                          refine WP.seq ?_
                          refine WP.draw (γ := Unit) Tryz.mixedMake [some 128, some 129, some 130, some 131, some 132, some 133, some 134, some 135, some 136, some 137, none] rfl [(0, .pointer (some ⟨p0, 0, none⟩)), (3, .pointer (some ⟨b1, 0, none⟩))] ⟨rfl, rfl, trivial⟩ (fun g67 => [.pointer (some ⟨p0, 0, none⟩), .pointer (some ⟨p0, 0, none⟩), .pointer (some ⟨p0, 2, none⟩), .map (some mf0), .agg #[.int .i64 String.Op, .int .i64 String.W, .int .i64 String.A, .int .i64 String.B, .int .i64 String.C, .int .u64 String.Num, .string String.Name], .pointer (some ⟨p0, 0, none⟩), .pointer (some ⟨p0, 0, none⟩), .pointer (some ⟨p0, 1, none⟩), g65.2, .int .i64 ((S.all ++ [String]).length : Int), undef]) [⟨[], 0, 0, false⟩, ⟨[0], 0, 0, false⟩, ⟨[1], 0, 0, false⟩, ⟨[2], 0, 0, false⟩, ⟨[], 0, 0, false⟩, ⟨[], 0, 0, false⟩, ⟨[5], 0, 0, false⟩, ⟨[6], 0, 0, false⟩, ⟨[7], 0, 0, false⟩, ⟨[8], 0, 0, false⟩, ⟨[3, 4, 9, 3, 4, 9], 0, 0, true⟩] [10] (fun g67 => [[pt p0 (.cells #[.int .i64 S.limit, g65.2, .map (some mf0), .map (some mn0)] 80 (0, 0)), slc 45 7 g65.2 (S.all ++ [String]).length (fl Nd.cells (S.all ++ [String])), mapAt Nd.val iv mf0 S.found, mapAt sv iv mn0 S.names, F, pt b1 (.cells #[.int .i64 String.Op, .int .i64 String.W, .int .i64 String.A, .int .i64 String.B, .int .i64 String.C, .int .u64 String.Num, .string String.Name] 45 (0, 0)), pt g65.1 (.cells #[.int .i64 String.Op, .int .i64 String.W, .int .i64 String.A, .int .i64 String.B, .int .i64 String.C, .int .u64 String.Num, .string String.Name] 45 (0, 0))], [pt p0 (.cells #[.int .i64 S.limit, g65.2, .map (some mf0), .map (some mn0)] 80 (0, 0)), slc 45 7 g65.2 (S.all ++ [String]).length (fl Nd.cells (S.all ++ [String])), mapAt Nd.val iv mf0 (mput S.found String ((S.all ++ [String]).length : Int)), mapAt sv iv mn0 S.names, F, pt b1 (.cells #[.int .i64 String.Op, .int .i64 String.W, .int .i64 String.A, .int .i64 String.B, .int .i64 String.C, .int .u64 String.Num, .string String.Name] 45 (0, 0)), pt g65.1 (.cells #[.int .i64 String.Op, .int .i64 String.W, .int .i64 String.A, .int .i64 String.B, .int .i64 String.C, .int .u64 String.Num, .string String.Name] 45 (0, 0))]]) rfl rfl rfl ⟨(fun g67 => SO.at (SO.val (PO.move rfl) rfl) rfl rfl), (fun g67 => SO.at (SO.val (PO.nilCheck rfl) rfl) rfl rfl), (fun g67 => SO.at (SO.val (PO.fieldAddr rfl Tryz.runUnderlying80 rfl Tryz.sizeOf78 rfl) rfl) rfl rfl), (fun g67 => SO.at (SO.val (PO.load 0 rfl Tryz.isAgg78 rfl rfl) rfl) rfl rfl), (fun g67 => SO.at (SO.val (PO.loadAgg 5 rfl Tryz.isAgg45 Tryz.sizeOf45 rfl rfl rfl) rfl) rfl rfl), (fun g67 => SO.at (SO.val (PO.move rfl) rfl) rfl rfl), (fun g67 => SO.at (SO.val (PO.nilCheck rfl) rfl) rfl rfl), (fun g67 => SO.at (SO.val (PO.fieldAddr rfl Tryz.runUnderlying80 rfl Tryz.sizeOf77 rfl) rfl) rfl rfl), (fun g67 => SO.at (SO.val (PO.load 0 rfl Tryz.isAgg77 rfl rfl) rfl) rfl rfl), (fun g67 => SO.at (SO.val (PO.lenL 1 rfl Tryz.runUnderlying77 rfl) rfl) rfl rfl), (fun g67 => SO.eff (EO.mapUpdate (a := String) (b := ((S.all ++ [String]).length : Int)) 2 _ node_key rfl rfl rfl Tryz.runUnderlying78 rfl rfl) rfl fun _ _ e2 => ⟨g67, fun h_ => absurd (show false = true from h_) Bool.false_ne_true, e2.trans rfl, (AgreeM_refl _ _ rfl)⟩), trivial⟩ (fun g67 => [pt p0 (.cells #[.int .i64 S.limit, g65.2, .map (some mf0), .map (some mn0)] 80 (0, 0)), slc 45 7 g65.2 (S.all ++ [String]).length (fl Nd.cells (S.all ++ [String])), mapAt Nd.val iv mf0 (mput S.found String ((S.all ++ [String]).length : Int)), mapAt sv iv mn0 S.names, F, pt b1 (.cells #[.int .i64 String.Op, .int .i64 String.W, .int .i64 String.A, .int .i64 String.B, .int .i64 String.C, .int .u64 String.Num, .string String.Name] 45 (0, 0)), pt g65.1 (.cells #[.int .i64 String.Op, .int .i64 String.W, .int .i64 String.A, .int .i64 String.B, .int .i64 String.C, .int .u64 String.Num, .string String.Name] 45 (0, 0))]) (fun _ => rfl) (fun g67 => [(128, .pointer (some ⟨p0, 0, none⟩)), (129, .pointer (some ⟨p0, 0, none⟩)), (130, .pointer (some ⟨p0, 2, none⟩)), (131, .map (some mf0)), (132, .agg #[.int .i64 String.Op, .int .i64 String.W, .int .i64 String.A, .int .i64 String.B, .int .i64 String.C, .int .u64 String.Num, .string String.Name]), (133, .pointer (some ⟨p0, 0, none⟩)), (134, .pointer (some ⟨p0, 0, none⟩)), (135, .pointer (some ⟨p0, 1, none⟩)), (136, g65.2), (137, .int .i64 ((S.all ++ [String]).length : Int)), (0, .pointer (some ⟨p0, 0, none⟩)), (3, .pointer (some ⟨b1, 0, none⟩))]) (fun _ => rfl) (fun g67 => ?_)
                          refine WP.seq ?_
                          refine WP.seq ?_
                          refine WP.region ?_
                          refine WO.val (PO.fieldAddr rfl Tryz.runUnderlying45 rfl Tryz.sizeOf3 rfl) rfl ?_
                          refine WO.val (PO.load 5 rfl Tryz.isAgg3 rfl rfl) rfl ?_
                          refine WO.val (PO.eql rfl rfl) rfl ?_
                          refine WO.nil ?_
                          refine WP.cond rfl (fun h68 => ?_) (fun h68 => ?_)
                          · replace hs := cond_t h68 hs
                            refine WP.draw (γ := Unit) Tryz.mixedMake [some 141, some 142, some 143, some 144, some 145, some 146, some 147, some 148, none] rfl [(3, .pointer (some ⟨b1, 0, none⟩)), (0, .pointer (some ⟨p0, 0, none⟩))] ⟨rfl, rfl, trivial⟩ (fun g69 => [.pointer (some ⟨p0, 0, none⟩), .pointer (some ⟨p0, 0, none⟩), .pointer (some ⟨p0, 3, none⟩), .map (some mn0), .pointer (some ⟨b1, 6, none⟩), .string String.Name, .pointer (some ⟨b1, 1, none⟩), .int .i64 String.W, undef]) [⟨[], 0, 0, false⟩, ⟨[0], 0, 0, false⟩, ⟨[1], 0, 0, false⟩, ⟨[2], 0, 0, false⟩, ⟨[], 0, 0, false⟩, ⟨[4], 0, 0, false⟩, ⟨[], 0, 0, false⟩, ⟨[6], 0, 0, false⟩, ⟨[3, 5, 7, 3, 5, 7], 0, 0, true⟩] [8] (fun g69 => [[pt p0 (.cells #[.int .i64 S.limit, g65.2, .map (some mf0), .map (some mn0)] 80 (0, 0)), slc 45 7 g65.2 (S.all ++ [String]).length (fl Nd.cells (S.all ++ [String])), mapAt Nd.val iv mf0 (mput S.found String ((S.all ++ [String]).length : Int)), mapAt sv iv mn0 S.names, F, pt b1 (.cells #[.int .i64 String.Op, .int .i64 String.W, .int .i64 String.A, .int .i64 String.B, .int .i64 String.C, .int .u64 String.Num, .string String.Name] 45 (0, 0)), pt g65.1 (.cells #[.int .i64 String.Op, .int .i64 String.W, .int .i64 String.A, .int .i64 String.B, .int .i64 String.C, .int .u64 String.Num, .string String.Name] 45 (0, 0))], [pt p0 (.cells #[.int .i64 S.limit, g65.2, .map (some mf0), .map (some mn0)] 80 (0, 0)), slc 45 7 g65.2 (S.all ++ [String]).length (fl Nd.cells (S.all ++ [String])), mapAt Nd.val iv mf0 (mput S.found String ((S.all ++ [String]).length : Int)), mapAt sv iv mn0 (mput S.names String.Name String.W), F, pt b1 (.cells #[.int .i64 String.Op, .int .i64 String.W, .int .i64 String.A, .int .i64 String.B, .int .i64 String.C, .int .u64 String.Num, .string String.Name] 45 (0, 0)), pt g65.1 (.cells #[.int .i64 String.Op, .int .i64 String.W, .int .i64 String.A, .int .i64 String.B, .int .i64 String.C, .int .u64 String.Num, .string String.Name] 45 (0, 0))]]) rfl rfl rfl ⟨(fun g69 => SO.at (SO.val (PO.move rfl) rfl) rfl rfl), (fun g69 => SO.at (SO.val (PO.nilCheck rfl) rfl) rfl rfl), (fun g69 => SO.at (SO.val (PO.fieldAddr rfl Tryz.runUnderlying80 rfl Tryz.sizeOf69 rfl) rfl) rfl rfl), (fun g69 => SO.at (SO.val (PO.load 0 rfl Tryz.isAgg69 rfl rfl) rfl) rfl rfl), (fun g69 => SO.at (SO.val (PO.fieldAddr rfl Tryz.runUnderlying45 rfl Tryz.sizeOf9 rfl) rfl) rfl rfl), (fun g69 => SO.at (SO.val (PO.load 5 rfl Tryz.isAgg9 rfl rfl) rfl) rfl rfl), (fun g69 => SO.at (SO.val (PO.fieldAddr rfl Tryz.runUnderlying45 rfl Tryz.sizeOf3 rfl) rfl) rfl rfl), (fun g69 => SO.at (SO.val (PO.load 5 rfl Tryz.isAgg3 rfl rfl) rfl) rfl rfl), (fun g69 => SO.eff (EO.mapUpdate (a := String.Name) (b := String.W) 3 _ str_key rfl rfl rfl Tryz.runUnderlying69 rfl rfl) rfl fun _ _ e2 => ⟨g69, fun h_ => absurd (show false = true from h_) Bool.false_ne_true, e2.trans rfl, (AgreeM_refl _ _ rfl)⟩), trivial⟩ (fun g69 => [pt p0 (.cells #[.int .i64 S.limit, g65.2, .map (some mf0), .map (some mn0)] 80 (0, 0)), slc 45 7 g65.2 (S.all ++ [String]).length (fl Nd.cells (S.all ++ [String])), mapAt Nd.val iv mf0 (mput S.found String ((S.all ++ [String]).length : Int)), mapAt sv iv mn0 (mput S.names String.Name String.W), F, pt b1 (.cells #[.int .i64 String.Op, .int .i64 String.W, .int .i64 String.A, .int .i64 String.B, .int .i64 String.C, .int .u64 String.Num, .string String.Name] 45 (0, 0)), pt g65.1 (.cells #[.int .i64 String.Op, .int .i64 String.W, .int .i64 String.A, .int .i64 String.B, .int .i64 String.C, .int .u64 String.Num, .string String.Name] 45 (0, 0))]) (fun _ => rfl) (fun g69 => [(141, .pointer (some ⟨p0, 0, none⟩)), (142, .pointer (some ⟨p0, 0, none⟩)), (143, .pointer (some ⟨p0, 3, none⟩)), (144, .map (some mn0)), (145, .pointer (some ⟨b1, 6, none⟩)), (146, .string String.Name), (147, .pointer (some ⟨b1, 1, none⟩)), (148, .int .i64 String.W), (3, .pointer (some ⟨b1, 0, none⟩)), (0, .pointer (some ⟨p0, 0, none⟩))]) (fun _ => rfl) (fun g69 => ?_)
                            refine WP.seq ?_
                            refine WP.region ?_
                            refine WO.val (PO.move rfl) rfl ?_
                            refine WO.val (PO.nilCheck rfl) rfl ?_
                            refine WO.val (PO.fieldAddr rfl Tryz.runUnderlying80 rfl Tryz.sizeOf77 rfl) rfl ?_
                            refine WO.val (PO.load 0 rfl Tryz.isAgg77 rfl rfl) rfl ?_
                            refine WO.val (PO.lenL 1 rfl Tryz.runUnderlying77 rfl) rfl ?_
                            refine WO.val (PO.assign rfl) rfl ?_
                            refine WO.val (PO.assign rfl) rfl ?_
                            refine WO.nil ?_
                            refine WP.ret ?_
                            obtain rfl := Option.some.inj hs
                            exact ⟨_, _, _, Res.two (RV.tmp rfl) (RV.tmp rfl), ⟨rfl, rfl⟩, fun _ s => stAt_close (s := (⟨S.limit, (S.all ++ [String]), (mput S.found String ((S.all ++ [String]).length : Int)), (mput S.names String.Name String.W)⟩ : St)) s⟩
                          · replace hs := cond_f h68 hs
                            refine WP.skip ?_
                            refine WP.seq ?_
                            refine WP.region ?_
                            refine WO.val (PO.move rfl) rfl ?_
                            refine WO.val (PO.nilCheck rfl) rfl ?_
                            refine WO.val (PO.fieldAddr rfl Tryz.runUnderlying80 rfl Tryz.sizeOf77 rfl) rfl ?_
                            refine WO.val (PO.load 0 rfl Tryz.isAgg77 rfl rfl) rfl ?_
                            refine WO.val (PO.lenL 1 rfl Tryz.runUnderlying77 rfl) rfl ?_
                            refine WO.val (PO.assign rfl) rfl ?_
                            refine WO.val (PO.assign rfl) rfl ?_
                            refine WO.nil ?_
                            refine WP.ret ?_
                            obtain rfl := Option.some.inj hs
                            exact ⟨_, _, _, Res.two (RV.tmp rfl) (RV.tmp rfl), ⟨rfl, rfl⟩, fun _ s => stAt_close (s := (⟨S.limit, (S.all ++ [String]), (mput S.found String ((S.all ++ [String]).length : Int)), S.names⟩ : St)) s⟩
                  · replace hs := cond_f h40 hs
                    refine WP.skip ?_
                    refine WP.seq ?_
                    refine WP.seq ?_
                    refine WP.openSt (fun v0 mf0 mn0 => ?_)
                    refine WP.draw (γ := Unit) Tryz.mixedMake [some 91, some 92, some 93, some 94, some 95, some 96, some 90, some 97, some 98, some 10, some 11] rfl [(0, .pointer (some ⟨p0, 0, none⟩)), (3, .pointer (some ⟨b1, 0, none⟩))] ⟨rfl, rfl, trivial⟩ (fun g70 => [.pointer (some ⟨p0, 0, none⟩), .pointer (some ⟨p0, 0, none⟩), .pointer (some ⟨p0, 2, none⟩), .map (some mf0), .agg #[.int .i64 String.Op, .int .i64 String.W, .int .i64 String.A, .int .i64 String.B, .int .i64 String.C, .int .u64 String.Num, .string String.Name], .tuple #[.int .i64 ((mget S.found String).getD 0), .bool ((mget S.found String).isSome)], .tuple #[.int .i64 ((mget S.found String).getD 0), .bool ((mget S.found String).isSome)], .int .i64 ((mget S.found String).getD 0), .bool ((mget S.found String).isSome), .int .i64 ((mget S.found String).getD 0), .bool ((mget S.found String).isSome)]) [⟨[], 0, 0, false⟩, ⟨[0], 0, 0, false⟩, ⟨[1], 0, 0, false⟩, ⟨[2], 0, 0, false⟩, ⟨[], 0, 0, false⟩, ⟨[3, 4], 0, 0, false⟩, ⟨[5], 0, 0, false⟩, ⟨[6], 0, 0, false⟩, ⟨[6], 0, 0, false⟩, ⟨[7, 7], 0, 0, false⟩, ⟨[8, 8], 0, 0, false⟩] [] (fun g70 => [[pt p0 (.cells #[.int .i64 S.limit, v0, .map (some mf0), .map (some mn0)] 80 (0, 0)), slc 45 7 v0 S.all.length (fl Nd.cells S.all), mapAt Nd.val iv mf0 S.found, mapAt sv iv mn0 S.names, F, pt b1 (.cells #[.int .i64 String.Op, .int .i64 String.W, .int .i64 String.A, .int .i64 String.B, .int .i64 String.C, .int .u64 String.Num, .string String.Name] 45 (0, 0))]]) rfl rfl rfl ⟨(fun g70 => SO.at (SO.val (PO.move rfl) rfl) rfl rfl), (fun g70 => SO.at (SO.val (PO.nilCheck rfl) rfl) rfl rfl), (fun g70 => SO.at (SO.val (PO.fieldAddr rfl Tryz.runUnderlying80 rfl Tryz.sizeOf78 rfl) rfl) rfl rfl), (fun g70 => SO.at (SO.val (PO.load 0 rfl Tryz.isAgg78 rfl rfl) rfl) rfl rfl), (fun g70 => SO.at (SO.val (PO.loadAgg 5 rfl Tryz.isAgg45 Tryz.sizeOf45 rfl rfl rfl) rfl) rfl rfl), (fun g70 => SO.at (SO.val (PO.lookup2 (a := String) (z := 0) 2 node_key rfl rfl Tryz.runUnderlying78 Tryz.zeroValue3 rfl) rfl) rfl rfl), (fun g70 => SO.at (SO.val (PO.move rfl) rfl) rfl rfl), (fun g70 => SO.at (SO.val (PO.extract rfl rfl) rfl) rfl rfl), (fun g70 => SO.at (SO.val (PO.extract rfl rfl) rfl) rfl rfl), (fun g70 => SO.at (SO.val (PO.assign rfl) rfl) rfl rfl), (fun g70 => SO.at (SO.val (PO.assign rfl) rfl) rfl rfl), trivial⟩ (fun g70 => [pt p0 (.cells #[.int .i64 S.limit, v0, .map (some mf0), .map (some mn0)] 80 (0, 0)), slc 45 7 v0 S.all.length (fl Nd.cells S.all), mapAt Nd.val iv mf0 S.found, mapAt sv iv mn0 S.names, F, pt b1 (.cells #[.int .i64 String.Op, .int .i64 String.W, .int .i64 String.A, .int .i64 String.B, .int .i64 String.C, .int .u64 String.Num, .string String.Name] 45 (0, 0))]) (fun _ => rfl) (fun g70 => [(91, .pointer (some ⟨p0, 0, none⟩)), (92, .pointer (some ⟨p0, 0, none⟩)), (93, .pointer (some ⟨p0, 2, none⟩)), (94, .map (some mf0)), (95, .agg #[.int .i64 String.Op, .int .i64 String.W, .int .i64 String.A, .int .i64 String.B, .int .i64 String.C, .int .u64 String.Num, .string String.Name]), (96, .tuple #[.int .i64 ((mget S.found String).getD 0), .bool ((mget S.found String).isSome)]), (90, .tuple #[.int .i64 ((mget S.found String).getD 0), .bool ((mget S.found String).isSome)]), (97, .int .i64 ((mget S.found String).getD 0)), (98, .bool ((mget S.found String).isSome)), (10, .int .i64 ((mget S.found String).getD 0)), (11, .bool ((mget S.found String).isSome)), (0, .pointer (some ⟨p0, 0, none⟩)), (3, .pointer (some ⟨b1, 0, none⟩))]) (fun _ => rfl) (fun g70 => ?_)
                    refine WP.seq ?_
                    refine WP.region ?_
                    refine WO.val (PO.move rfl) rfl ?_
                    refine WO.nil ?_
                    refine WP.cond rfl (fun h71 => ?_) (fun h71 => ?_)
                    · replace hs := cond_t h71 hs
                      refine WP.seq ?_
                      refine WP.region ?_
                      refine WO.val (PO.move rfl) rfl ?_
                      refine WO.val (PO.assign rfl) rfl ?_
                      refine WO.val (PO.assign rfl) rfl ?_
                      refine WO.nil ?_
                      refine WP.ret ?_
                      obtain rfl := Option.some.inj hs
                      exact ⟨_, _, _, Res.two (RV.tmp rfl) (RV.tmp rfl), ⟨rfl, rfl⟩, fun _ s => stAt_close (s := (⟨S.limit, S.all, S.found, S.names⟩ : St)) s⟩
                    · replace hs := cond_f h71 hs
                      refine WP.skip ?_
                      refine WP.seq ?_
                      refine WP.seq ?_
                      refine WP.draw (γ := Unit) Tryz.mixedMake [some 101, some 102, some 103, some 104, some 105, some 106, some 107, some 108, some 109, some 110, some 111, some 112, some 113, some 114, some 115, some 116, some 117] rfl [(3, .pointer (some ⟨b1, 0, none⟩)), (0, .pointer (some ⟨p0, 0, none⟩))] ⟨rfl, rfl, trivial⟩ (fun g72 => [.pointer (some ⟨p0, 0, none⟩), .pointer (some ⟨p0, 0, none⟩), .pointer (some ⟨p0, 0, none⟩), .int .i64 S.limit, .bool (decide (0 < S.limit)), .bool (decide (0 < S.limit)), gd (decide (0 < S.limit)) (.pointer (some ⟨p0, 0, none⟩)), gd (decide (0 < S.limit)) (.pointer (some ⟨p0, 0, none⟩)), gd (decide (0 < S.limit)) (.pointer (some ⟨p0, 1, none⟩)), gd (decide (0 < S.limit)) (v0), gd (decide (0 < S.limit)) (.int .i64 (S.all.length : Int)), gd (decide (0 < S.limit)) (.pointer (some ⟨p0, 0, none⟩)), gd (decide (0 < S.limit)) (.pointer (some ⟨p0, 0, none⟩)), gd (decide (0 < S.limit)) (.pointer (some ⟨p0, 0, none⟩)), gd (decide (0 < S.limit)) (.int .i64 S.limit), gd (decide (0 < S.limit)) (.bool (decide (S.limit ≤ (S.all.length : Int)))), .bool ((decide (0 < S.limit)) && (decide (S.limit ≤ (S.all.length : Int))))]) [⟨[], 0, 0, false⟩, ⟨[0], 0, 0, false⟩, ⟨[1], 0, 0, false⟩, ⟨[2], 0, 0, false⟩, ⟨[3], 0, 0, false⟩, ⟨[4], 0, 0, false⟩, ⟨[5], 0, 0, false⟩, ⟨[6, 5], 0, 0, false⟩, ⟨[7, 5], 0, 0, false⟩, ⟨[8, 5], 0, 0, false⟩, ⟨[9, 5], 0, 0, false⟩, ⟨[5], 0, 0, false⟩, ⟨[11, 5], 0, 0, false⟩, ⟨[12, 5], 0, 0, false⟩, ⟨[13, 5], 0, 0, false⟩, ⟨[10, 14, 5], 0, 0, false⟩, ⟨[5, 15], 0, 0, false⟩] [] (fun g72 => [[pt p0 (.cells #[.int .i64 S.limit, v0, .map (some mf0), .map (some mn0)] 80 (0, 0)), slc 45 7 v0 S.all.length (fl Nd.cells S.all), mapAt Nd.val iv mf0 S.found, mapAt sv iv mn0 S.names, F, pt b1 (.cells #[.int .i64 String.Op, .int .i64 String.W, .int .i64 String.A, .int .i64 String.B, .int .i64 String.C, .int .u64 String.Num, .string String.Name] 45 (0, 0))]]) rfl rfl rfl ⟨(fun g72 => SO.at (SO.val (PO.move rfl) rfl) rfl rfl), (fun g72 => SO.at (SO.val (PO.nilCheck rfl) rfl) rfl rfl), (fun g72 => SO.at (SO.val (PO.fieldAddr rfl Tryz.runUnderlying80 rfl Tryz.sizeOf3 rfl) rfl) rfl rfl), (fun g72 => SO.at (SO.val (PO.load 0 rfl Tryz.isAgg3 rfl rfl) rfl) rfl rfl), (fun g72 => SO.at (SO.val (PO.gtr rfl rfl) rfl) rfl rfl), (fun g72 => SO.at (SO.val (PO.move rfl) rfl) rfl rfl), (fun g72 => SO.at (SO.guardT rfl rfl (fun hg73 => (PO.move rfl).vo)) rfl rfl), (fun g72 => SO.at (SO.guardT rfl rfl (fun hg74 => (PO.nilCheck (evg hg74 rfl)).vo)) rfl rfl), (fun g72 => SO.at (SO.guardT rfl rfl (fun hg75 => (PO.fieldAddr (evg hg75 rfl) Tryz.runUnderlying80 rfl Tryz.sizeOf77 rfl).vo)) rfl rfl), (fun g72 => SO.at (SO.guardT rfl rfl (fun hg76 => (PO.load 0 (evg hg76 rfl) Tryz.isAgg77 rfl rfl).vo)) rfl rfl), (fun g72 => SO.at (SO.guardT rfl rfl (fun hg77 => (PO.lenL 1 (evg hg77 rfl) Tryz.runUnderlying77 rfl).vo)) rfl rfl), (fun g72 => SO.at (SO.guardT rfl rfl (fun hg78 => (PO.move rfl).vo)) rfl rfl), (fun g72 => SO.at (SO.guardT rfl rfl (fun hg79 => (PO.nilCheck (evg hg79 rfl)).vo)) rfl rfl), (fun g72 => SO.at (SO.guardT rfl rfl (fun hg80 => (PO.fieldAddr (evg hg80 rfl) Tryz.runUnderlying80 rfl Tryz.sizeOf3 rfl).vo)) rfl rfl), (fun g72 => SO.at (SO.guardT rfl rfl (fun hg81 => (PO.load 0 (evg hg81 rfl) Tryz.isAgg3 rfl rfl).vo)) rfl rfl), (fun g72 => SO.at (SO.guardT rfl rfl (fun hg82 => (PO.geq (evg hg82 rfl) (evg hg82 rfl)).vo)) rfl rfl), (fun g72 => SO.at (SO.val (PO.pickA rfl rfl rfl) rfl) rfl rfl), trivial⟩ (fun g72 => [pt p0 (.cells #[.int .i64 S.limit, v0, .map (some mf0), .map (some mn0)] 80 (0, 0)), slc 45 7 v0 S.all.length (fl Nd.cells S.all), mapAt Nd.val iv mf0 S.found, mapAt sv iv mn0 S.names, F, pt b1 (.cells #[.int .i64 String.Op, .int .i64 String.W, .int .i64 String.A, .int .i64 String.B, .int .i64 String.C, .int .u64 String.Num, .string String.Name] 45 (0, 0))]) (fun _ => rfl) (fun g72 => [(101, .pointer (some ⟨p0, 0, none⟩)), (102, .pointer (some ⟨p0, 0, none⟩)), (103, .pointer (some ⟨p0, 0, none⟩)), (104, .int .i64 S.limit), (105, .bool (decide (0 < S.limit))), (106, .bool (decide (0 < S.limit))), (107, gd (decide (0 < S.limit)) (.pointer (some ⟨p0, 0, none⟩))), (108, gd (decide (0 < S.limit)) (.pointer (some ⟨p0, 0, none⟩))), (109, gd (decide (0 < S.limit)) (.pointer (some ⟨p0, 1, none⟩))), (110, gd (decide (0 < S.limit)) (v0)), (111, gd (decide (0 < S.limit)) (.int .i64 (S.all.length : Int))), (112, gd (decide (0 < S.limit)) (.pointer (some ⟨p0, 0, none⟩))), (113, gd (decide (0 < S.limit)) (.pointer (some ⟨p0, 0, none⟩))), (114, gd (decide (0 < S.limit)) (.pointer (some ⟨p0, 0, none⟩))), (115, gd (decide (0 < S.limit)) (.int .i64 S.limit)), (116, gd (decide (0 < S.limit)) (.bool (decide (S.limit ≤ (S.all.length : Int))))), (117, .bool ((decide (0 < S.limit)) && (decide (S.limit ≤ (S.all.length : Int))))), (3, .pointer (some ⟨b1, 0, none⟩)), (0, .pointer (some ⟨p0, 0, none⟩))]) (fun _ => rfl) (fun g72 => ?_)
                      refine WP.cond rfl (fun h83 => ?_) (fun h83 => ?_)
                      · replace hs := cond_t h83 hs
                        refine WP.seq ?_
                        refine WP.region ?_
                        refine WO.val (PO.assign rfl) rfl ?_
                        refine WO.val (PO.assign rfl) rfl ?_
                        refine WO.nil ?_
                        refine WP.ret ?_
                        obtain rfl := Option.some.inj hs
                        exact ⟨_, _, _, Res.two (RV.tmp rfl) (RV.tmp rfl), ⟨rfl, rfl⟩, fun _ s => stAt_close (s := (⟨S.limit, S.all, S.found, S.names⟩ : St)) s⟩
                      · replace hs := cond_f h83 hs
                        refine WP.skip ?_
                        refine WP.seq ?_
                        obtain ⟨hc85, hs⟩ := check_elim hs
                        refine WP.draw (γ := Nat × Value) Tryz.mixedMake [some 118, some 119, some 120, some 121, some 122, some 123, some 124, some 125, some 126, some 127, none] rfl [(0, .pointer (some ⟨p0, 0, none⟩)), (3, .pointer (some ⟨b1, 0, none⟩))] ⟨rfl, rfl, trivial⟩ (fun g84 => [.pointer (some ⟨p0, 0, none⟩), .pointer (some ⟨p0, 0, none⟩), .pointer (some ⟨p0, 0, none⟩), .pointer (some ⟨p0, 1, none⟩), v0, .agg #[.int .i64 String.Op, .int .i64 String.W, .int .i64 String.A, .int .i64 String.B, .int .i64 String.C, .int .u64 String.Num, .string String.Name], .slice (some ⟨g84.1, 0, none⟩) 1 1, g84.2, .pointer (some ⟨p0, 0, none⟩), .pointer (some ⟨p0, 1, none⟩), undef]) [⟨[], 0, 2, false⟩, ⟨[], 0, 1, false⟩, ⟨[1], 0, 1, false⟩, ⟨[2], 0, 1, false⟩, ⟨[3], 0, 1, false⟩, ⟨[], 0, 0, false⟩, ⟨[5], 0, 0, true⟩, ⟨[4, 6], 1, 0, true⟩, ⟨[0, 0], 2, 0, false⟩, ⟨[8], 2, 0, false⟩, ⟨[9, 7, 7, 7], 2, 0, true⟩] [6, 7, 10] (fun g84 => [[pt p0 (.cells #[.int .i64 S.limit, v0, .map (some mf0), .map (some mn0)] 80 (0, 0)), slc 45 7 v0 S.all.length (fl Nd.cells S.all), mapAt Nd.val iv mf0 S.found, mapAt sv iv mn0 S.names, F, pt b1 (.cells #[.int .i64 String.Op, .int .i64 String.W, .int .i64 String.A, .int .i64 String.B, .int .i64 String.C, .int .u64 String.Num, .string String.Name] 45 (0, 0))], [pt p0 (.cells #[.int .i64 S.limit, v0, .map (some mf0), .map (some mn0)] 80 (0, 0)), slc 45 7 v0 S.all.length (fl Nd.cells S.all), mapAt Nd.val iv mf0 S.found, mapAt sv iv mn0 S.names, F, pt b1 (.cells #[.int .i64 String.Op, .int .i64 String.W, .int .i64 String.A, .int .i64 String.B, .int .i64 String.C, .int .u64 String.Num, .string String.Name] 45 (0, 0)), pt g84.1 (.cells #[.int .i64 String.Op, .int .i64 String.W, .int .i64 String.A, .int .i64 String.B, .int .i64 String.C, .int .u64 String.Num, .string String.Name] 45 (0, 0))], [pt p0 (.cells #[.int .i64 S.limit, v0, .map (some mf0), .map (some mn0)] 80 (0, 0)), slc 45 7 g84.2 (S.all ++ [String]).length (fl Nd.cells (S.all ++ [String])), mapAt Nd.val iv mf0 S.found, mapAt sv iv mn0 S.names, F, pt b1 (.cells #[.int .i64 String.Op, .int .i64 String.W, .int .i64 String.A, .int .i64 String.B, .int .i64 String.C, .int .u64 String.Num, .string String.Name] 45 (0, 0)), pt g84.1 (.cells #[.int .i64 String.Op, .int .i64 String.W, .int .i64 String.A, .int .i64 String.B, .int .i64 String.C, .int .u64 String.Num, .string String.Name] 45 (0, 0))], [pt p0 (.cells #[.int .i64 S.limit, g84.2, .map (some mf0), .map (some mn0)] 80 (0, 0)), slc 45 7 g84.2 (S.all ++ [String]).length (fl Nd.cells (S.all ++ [String])), mapAt Nd.val iv mf0 S.found, mapAt sv iv mn0 S.names, F, pt b1 (.cells #[.int .i64 String.Op, .int .i64 String.W, .int .i64 String.A, .int .i64 String.B, .int .i64 String.C, .int .u64 String.Num, .string String.Name] 45 (0, 0)), pt g84.1 (.cells #[.int .i64 String.Op, .int .i64 String.W, .int .i64 String.A, .int .i64 String.B, .int .i64 String.C, .int .u64 String.Num, .string String.Name] 45 (0, 0))]]) rfl rfl rfl ⟨⟨(fun g84 => SO.at (SO.val (PO.move rfl) rfl) rfl rfl), (fun g84 => SO.at (SO.val (PO.move rfl) rfl) rfl rfl), (fun g84 => SO.at (SO.val (PO.move rfl) rfl) rfl rfl)⟩, ⟨(fun g84 => SO.at (SO.val (PO.move rfl) rfl) rfl rfl), (fun g84 => SO.at (SO.val (PO.move rfl) rfl) rfl rfl)⟩, ⟨(fun g84 => SO.at (SO.val (PO.nilCheck rfl) rfl) rfl rfl), (fun g84 => SO.at (SO.val (PO.nilCheck rfl) rfl) rfl rfl)⟩, ⟨(fun g84 => SO.at (SO.val (PO.fieldAddr rfl Tryz.runUnderlying80 rfl Tryz.sizeOf77 rfl) rfl) rfl rfl), (fun g84 => SO.at (SO.val (PO.fieldAddr rfl Tryz.runUnderlying80 rfl Tryz.sizeOf77 rfl) rfl) rfl rfl)⟩, ⟨(fun g84 => SO.at (SO.val (PO.load 0 rfl Tryz.isAgg77 rfl rfl) rfl) rfl rfl), (fun g84 => SO.at (SO.val (PO.load 0 rfl Tryz.isAgg77 rfl rfl) rfl) rfl rfl)⟩, (fun g84 => SO.at (SO.val (PO.loadAgg 5 rfl Tryz.isAgg45 Tryz.sizeOf45 rfl rfl rfl) rfl) rfl rfl), (fun g84 => SO.eff (EO.buildSlice1 rfl Tryz.runUnderlying77 Tryz.sizeOf45 Tryz.zeroValue45 rfl rfl rfl rfl) rfl fun _ _ ⟨b_, e1, e2⟩ => ⟨(b_, g84.2), fun _ => by rw [e1]; rfl, e2.trans rfl, ⟨rfl, rfl, rfl, rfl, rfl, rfl, trivial⟩⟩), (fun g84 => SO.eff (EO.appendL (c := Nd.cells) (a := String) 1 6 (fun _ => rfl) Tryz.typeInfo45 rfl rfl rfl rfl Tryz.runUnderlying77 Tryz.underlying77 rfl rfl rfl rfl rfl rfl rfl rfl hc85) rfl fun v_ _ e2 => ⟨(g84.1, v_), fun _ => rfl, e2.trans rfl, ⟨rfl, rfl, rfl, rfl, rfl, rfl, rfl, trivial⟩⟩), (fun g84 => SO.at (SO.val (PO.nilCheck rfl) rfl) rfl rfl), (fun g84 => SO.at (SO.val (PO.fieldAddr rfl Tryz.runUnderlying80 rfl Tryz.sizeOf77 rfl) rfl) rfl rfl), (fun g84 => SO.eff (EO.storeS 0 1 _ rfl rfl rfl Tryz.sizeOf77 rfl rfl rfl) rfl fun _ _ e2 => ⟨g84, fun h_ => absurd (show false = true from h_) Bool.false_ne_true, e2.trans rfl, (AgreeM_refl _ _ rfl)⟩), trivial⟩ (fun g84 => [pt p0 (.cells #[.int .i64 S.limit, g84.2, .map (some mf0), .map (some mn0)] 80 (0, 0)), slc 45 7 g84.2 (S.all ++ [String]).length (fl Nd.cells (S.all ++ [String])), mapAt Nd.val iv mf0 S.found, mapAt sv iv mn0 S.names, F, pt b1 (.cells #[.int .i64 String.Op, .int .i64 String.W, .int .i64 String.A, .int .i64 String.B, .int .i64 String.C, .int .u64 String.Num, .string String.Name] 45 (0, 0)), pt g84.1 (.cells #[.int .i64 String.Op, .int .i64 String.W, .int .i64 String.A, .int .i64 String.B, .int .i64 String.C, .int .u64 String.Num, .string String.Name] 45 (0, 0))]) (fun _ => rfl) (fun g84 => [(118, .pointer (some ⟨p0, 0, none⟩)), (119, .pointer (some ⟨p0, 0, none⟩)), (120, .pointer (some ⟨p0, 0, none⟩)), (121, .pointer (some ⟨p0, 1, none⟩)), (122, v0), (123, .agg #[.int .i64 String.Op, .int .i64 String.W, .int .i64 String.A, .int .i64 String.B, .int .i64 String.C, .int .u64 String.Num, .string String.Name]), (124, .slice (some ⟨g84.1, 0, none⟩) 1 1), (125, g84.2), (126, .pointer (some ⟨p0, 0, none⟩)), (127, .pointer (some ⟨p0, 1, none⟩)), (0, .pointer (some ⟨p0, 0, none⟩)), (3, .pointer (some ⟨b1, 0, none⟩))]) (fun _ => rfl) (fun g84 => ?_)
                        refine WP.seq ?_
                        refine WP.draw (γ := Unit) Tryz.mixedMake [some 128, some 129, some 130, some 131, some 132, some 133, some 134, some 135, some 136, some 137, none] rfl [(3, .pointer (some ⟨b1, 0, none⟩)), (0, .pointer (some ⟨p0, 0, none⟩))] ⟨rfl, rfl, trivial⟩ (fun g86 => [.pointer (some ⟨p0, 0, none⟩), .pointer (some ⟨p0, 0, none⟩), .pointer (some ⟨p0, 2, none⟩), .map (some mf0), .agg #[.int .i64 String.Op, .int .i64 String.W, .int .i64 String.A, .int .i64 String.B, .int .i64 String.C, .int .u64 String.Num, .string String.Name], .pointer (some ⟨p0, 0, none⟩), .pointer (some ⟨p0, 0, none⟩), .pointer (some ⟨p0, 1, none⟩), g84.2, .int .i64 ((S.all ++ [String]).length : Int), undef]) [⟨[], 0, 0, false⟩, ⟨[0], 0, 0, false⟩, ⟨[1], 0, 0, false⟩, ⟨[2], 0, 0, false⟩, ⟨[], 0, 0, false⟩, ⟨[], 0, 0, false⟩, ⟨[5], 0, 0, false⟩, ⟨[6], 0, 0, false⟩, ⟨[7], 0, 0, false⟩, ⟨[8], 0, 0, false⟩, ⟨[3, 4, 9, 3, 4, 9], 0, 0, true⟩] [10] (fun g86 => [[pt p0 (.cells #[.int .i64 S.limit, g84.2, .map (some mf0), .map (some mn0)] 80 (0, 0)), slc 45 7 g84.2 (S.all ++ [String]).length (fl Nd.cells (S.all ++ [String])), mapAt Nd.val iv mf0 S.found, mapAt sv iv mn0 S.names, F, pt b1 (.cells #[.int .i64 String.Op, .int .i64 String.W, .int .i64 String.A, .int .i64 String.B, .int .i64 String.C, .int .u64 String.Num, .string String.Name] 45 (0, 0)), pt g84.1 (.cells #[.int .i64 String.Op, .int .i64 String.W, .int .i64 String.A, .int .i64 String.B, .int .i64 String.C, .int .u64 String.Num, .string String.Name] 45 (0, 0))], [pt p0 (.cells #[.int .i64 S.limit, g84.2, .map (some mf0), .map (some mn0)] 80 (0, 0)), slc 45 7 g84.2 (S.all ++ [String]).length (fl Nd.cells (S.all ++ [String])), mapAt Nd.val iv mf0 (mput S.found String ((S.all ++ [String]).length : Int)), mapAt sv iv mn0 S.names, F, pt b1 (.cells #[.int .i64 String.Op, .int .i64 String.W, .int .i64 String.A, .int .i64 String.B, .int .i64 String.C, .int .u64 String.Num, .string String.Name] 45 (0, 0)), pt g84.1 (.cells #[.int .i64 String.Op, .int .i64 String.W, .int .i64 String.A, .int .i64 String.B, .int .i64 String.C, .int .u64 String.Num, .string String.Name] 45 (0, 0))]]) rfl rfl rfl ⟨(fun g86 => SO.at (SO.val (PO.move rfl) rfl) rfl rfl), (fun g86 => SO.at (SO.val (PO.nilCheck rfl) rfl) rfl rfl), (fun g86 => SO.at (SO.val (PO.fieldAddr rfl Tryz.runUnderlying80 rfl Tryz.sizeOf78 rfl) rfl) rfl rfl), (fun g86 => SO.at (SO.val (PO.load 0 rfl Tryz.isAgg78 rfl rfl) rfl) rfl rfl), (fun g86 => SO.at (SO.val (PO.loadAgg 5 rfl Tryz.isAgg45 Tryz.sizeOf45 rfl rfl rfl) rfl) rfl rfl), (fun g86 => SO.at (SO.val (PO.move rfl) rfl) rfl rfl), (fun g86 => SO.at (SO.val (PO.nilCheck rfl) rfl) rfl rfl), (fun g86 => SO.at (SO.val (PO.fieldAddr rfl Tryz.runUnderlying80 rfl Tryz.sizeOf77 rfl) rfl) rfl rfl), (fun g86 => SO.at (SO.val (PO.load 0 rfl Tryz.isAgg77 rfl rfl) rfl) rfl rfl), (fun g86 => SO.at (SO.val (PO.lenL 1 rfl Tryz.runUnderlying77 rfl) rfl) rfl rfl), (fun g86 => SO.eff (EO.mapUpdate (a := String) (b := ((S.all ++ [String]).length : Int)) 2 _ node_key rfl rfl rfl Tryz.runUnderlying78 rfl rfl) rfl fun _ _ e2 => ⟨g86, fun h_ => absurd (show false = true from h_) Bool.false_ne_true, e2.trans rfl, (AgreeM_refl _ _ rfl)⟩), trivial⟩ (fun g86 => [pt p0 (.cells #[.int .i64 S.limit, g84.2, .map (some mf0), .map (some mn0)] 80 (0, 0)), slc 45 7 g84.2 (S.all ++ [String]).length (fl Nd.cells (S.all ++ [String])), mapAt Nd.val iv mf0 (mput S.found String ((S.all ++ [String]).length : Int)), mapAt sv iv mn0 S.names, F, pt b1 (.cells #[.int .i64 String.Op, .int .i64 String.W, .int .i64 String.A, .int .i64 String.B, .int .i64 String.C, .int .u64 String.Num, .string String.Name] 45 (0, 0)), pt g84.1 (.cells #[.int .i64 String.Op, .int .i64 String.W, .int .i64 String.A, .int .i64 String.B, .int .i64 String.C, .int .u64 String.Num, .string String.Name] 45 (0, 0))]) (fun _ => rfl) (fun g86 => [(128, .pointer (some ⟨p0, 0, none⟩)), (129, .pointer (some ⟨p0, 0, none⟩)), (130, .pointer (some ⟨p0, 2, none⟩)), (131, .map (some mf0)), (132, .agg #[.int .i64 String.Op, .int .i64 String.W, .int .i64 String.A, .int .i64 String.B, .int .i64 String.C, .int .u64 String.Num, .string String.Name]), (133, .pointer (some ⟨p0, 0, none⟩)), (134, .pointer (some ⟨p0, 0, none⟩)), (135, .pointer (some ⟨p0, 1, none⟩)), (136, g84.2), (137, .int .i64 ((S.all ++ [String]).length : Int)), (3, .pointer (some ⟨b1, 0, none⟩)), (0, .pointer (some ⟨p0, 0, none⟩))]) (fun _ => rfl) (fun g86 => ?_)
                        refine WP.seq ?_
                        refine WP.seq ?_
                        refine WP.region ?_
                        refine WO.val (PO.fieldAddr rfl Tryz.runUnderlying45 rfl Tryz.sizeOf3 rfl) rfl ?_
                        refine WO.val (PO.load 5 rfl Tryz.isAgg3 rfl rfl) rfl ?_
                        refine WO.val (PO.eql rfl rfl) rfl ?_
                        refine WO.nil ?_
                        refine WP.cond rfl (fun h87 => ?_) (fun h87 => ?_)
                        · replace hs := cond_t h87 hs
                          refine WP.draw (γ := Unit) Tryz.mixedMake [some 141, some 142, some 143, some 144, some 145, some 146, some 147, some 148, none] rfl [(0, .pointer (some ⟨p0, 0, none⟩)), (3, .pointer (some ⟨b1, 0, none⟩))] ⟨rfl, rfl, trivial⟩ (fun g88 => [.pointer (some ⟨p0, 0, none⟩), .pointer (some ⟨p0, 0, none⟩), .pointer (some ⟨p0, 3, none⟩), .map (some mn0), .pointer (some ⟨b1, 6, none⟩), .string String.Name, .pointer (some ⟨b1, 1, none⟩), .int .i64 String.W, undef]) [⟨[], 0, 0, false⟩, ⟨[0], 0, 0, false⟩, ⟨[1], 0, 0, false⟩, ⟨[2], 0, 0, false⟩, ⟨[], 0, 0, false⟩, ⟨[4], 0, 0, false⟩, ⟨[], 0, 0, false⟩, ⟨[6], 0, 0, false⟩, ⟨[3, 5, 7, 3, 5, 7], 0, 0, true⟩] [8] (fun g88 => [[pt p0 (.cells #[.int .i64 S.limit, g84.2, .map (some mf0), .map (some mn0)] 80 (0, 0)), slc 45 7 g84.2 (S.all ++ [String]).length (fl Nd.cells (S.all ++ [String])), mapAt Nd.val iv mf0 (mput S.found String ((S.all ++ [String]).length : Int)), mapAt sv iv mn0 S.names, F, pt b1 (.cells #[.int .i64 String.Op, .int .i64 String.W, .int .i64 String.A, .int .i64 String.B, .int .i64 String.C, .int .u64 String.Num, .string String.Name] 45 (0, 0)), pt g84.1 (.cells #[.int .i64 String.Op, .int .i64 String.W, .int .i64 String.A, .int .i64 String.B, .int .i64 String.C, .int .u64 String.Num, .string String.Name] 45 (0, 0))], [pt p0 (.cells #[.int .i64 S.limit, g84.2, .map (some mf0), .map (some mn0)] 80 (0, 0)), slc 45 7 g84.2 (S.all ++ [String]).length (fl Nd.cells (S.all ++ [String])), mapAt Nd.val iv mf0 (mput S.found String ((S.all ++ [String]).length : Int)), mapAt sv iv mn0 (mput S.names String.Name String.W), F, pt b1 (.cells #[.int .i64 String.Op, .int .i64 String.W, .int .i64 String.A, .int .i64 String.B, .int .i64 String.C, .int .u64 String.Num, .string String.Name] 45 (0, 0)), pt g84.1 (.cells #[.int .i64 String.Op, .int .i64 String.W, .int .i64 String.A, .int .i64 String.B, .int .i64 String.C, .int .u64 String.Num, .string String.Name] 45 (0, 0))]]) rfl rfl rfl ⟨(fun g88 => SO.at (SO.val (PO.move rfl) rfl) rfl rfl), (fun g88 => SO.at (SO.val (PO.nilCheck rfl) rfl) rfl rfl), (fun g88 => SO.at (SO.val (PO.fieldAddr rfl Tryz.runUnderlying80 rfl Tryz.sizeOf69 rfl) rfl) rfl rfl), (fun g88 => SO.at (SO.val (PO.load 0 rfl Tryz.isAgg69 rfl rfl) rfl) rfl rfl), (fun g88 => SO.at (SO.val (PO.fieldAddr rfl Tryz.runUnderlying45 rfl Tryz.sizeOf9 rfl) rfl) rfl rfl), (fun g88 => SO.at (SO.val (PO.load 5 rfl Tryz.isAgg9 rfl rfl) rfl) rfl rfl), (fun g88 => SO.at (SO.val (PO.fieldAddr rfl Tryz.runUnderlying45 rfl Tryz.sizeOf3 rfl) rfl) rfl rfl), (fun g88 => SO.at (SO.val (PO.load 5 rfl Tryz.isAgg3 rfl rfl) rfl) rfl rfl), (fun g88 => SO.eff (EO.mapUpdate (a := String.Name) (b := String.W) 3 _ str_key rfl rfl rfl Tryz.runUnderlying69 rfl rfl) rfl fun _ _ e2 => ⟨g88, fun h_ => absurd (show false = true from h_) Bool.false_ne_true, e2.trans rfl, (AgreeM_refl _ _ rfl)⟩), trivial⟩ (fun g88 => [pt p0 (.cells #[.int .i64 S.limit, g84.2, .map (some mf0), .map (some mn0)] 80 (0, 0)), slc 45 7 g84.2 (S.all ++ [String]).length (fl Nd.cells (S.all ++ [String])), mapAt Nd.val iv mf0 (mput S.found String ((S.all ++ [String]).length : Int)), mapAt sv iv mn0 (mput S.names String.Name String.W), F, pt b1 (.cells #[.int .i64 String.Op, .int .i64 String.W, .int .i64 String.A, .int .i64 String.B, .int .i64 String.C, .int .u64 String.Num, .string String.Name] 45 (0, 0)), pt g84.1 (.cells #[.int .i64 String.Op, .int .i64 String.W, .int .i64 String.A, .int .i64 String.B, .int .i64 String.C, .int .u64 String.Num, .string String.Name] 45 (0, 0))]) (fun _ => rfl) (fun g88 => [(141, .pointer (some ⟨p0, 0, none⟩)), (142, .pointer (some ⟨p0, 0, none⟩)), (143, .pointer (some ⟨p0, 3, none⟩)), (144, .map (some mn0)), (145, .pointer (some ⟨b1, 6, none⟩)), (146, .string String.Name), (147, .pointer (some ⟨b1, 1, none⟩)), (148, .int .i64 String.W), (0, .pointer (some ⟨p0, 0, none⟩)), (3, .pointer (some ⟨b1, 0, none⟩))]) (fun _ => rfl) (fun g88 => ?_)
                          refine WP.seq ?_
                          refine WP.region ?_
                          refine WO.val (PO.move rfl) rfl ?_
                          refine WO.val (PO.nilCheck rfl) rfl ?_
                          refine WO.val (PO.fieldAddr rfl Tryz.runUnderlying80 rfl Tryz.sizeOf77 rfl) rfl ?_
                          refine WO.val (PO.load 0 rfl Tryz.isAgg77 rfl rfl) rfl ?_
                          refine WO.val (PO.lenL 1 rfl Tryz.runUnderlying77 rfl) rfl ?_
                          refine WO.val (PO.assign rfl) rfl ?_
                          refine WO.val (PO.assign rfl) rfl ?_
                          refine WO.nil ?_
                          refine WP.ret ?_
                          obtain rfl := Option.some.inj hs
                          exact ⟨_, _, _, Res.two (RV.tmp rfl) (RV.tmp rfl), ⟨rfl, rfl⟩, fun _ s => stAt_close (s := (⟨S.limit, (S.all ++ [String]), (mput S.found String ((S.all ++ [String]).length : Int)), (mput S.names String.Name String.W)⟩ : St)) s⟩
                        · replace hs := cond_f h87 hs
                          refine WP.skip ?_
                          refine WP.seq ?_
                          refine WP.region ?_
                          refine WO.val (PO.move rfl) rfl ?_
                          refine WO.val (PO.nilCheck rfl) rfl ?_
                          refine WO.val (PO.fieldAddr rfl Tryz.runUnderlying80 rfl Tryz.sizeOf77 rfl) rfl ?_
                          refine WO.val (PO.load 0 rfl Tryz.isAgg77 rfl rfl) rfl ?_
                          refine WO.val (PO.lenL 1 rfl Tryz.runUnderlying77 rfl) rfl ?_
                          refine WO.val (PO.assign rfl) rfl ?_
                          refine WO.val (PO.assign rfl) rfl ?_
                          refine WO.nil ?_
                          refine WP.ret ?_
                          obtain rfl := Option.some.inj hs
                          exact ⟨_, _, _, Res.two (RV.tmp rfl) (RV.tmp rfl), ⟨rfl, rfl⟩, fun _ s => stAt_close (s := (⟨S.limit, (S.all ++ [String]), (mput S.found String ((S.all ++ [String]).length : Int)), S.names⟩ : St)) s⟩
attribute [irreducible] s_St_Make

end Go.Proofs.YtlnionilhagenaaGreatDoor
