import Derived.Test.YtlnionilhagenaaGreatDoorCl
namespace Go.Proofs.YtlnionilhagenaaGreatDoor
open Go.RowKit
set_option linter.all false
theorem d_ok {w0 : World} {L : List HP} {p4 p5 p7 : Nat} {w : World} (s : Sat w0 L w) :
    CallsD Tryz.prog 46 #[.pointer (some ⟨p4, 0, none⟩), .pointer (some ⟨p5, 0, none⟩), .pointer (some ⟨p7, 0, none⟩)] .returning w fun e u' w' => e = .returned (.tuple #[]) ∧ u' = .returning ∧ Sat w0 L w' := by
  refine callsD_of_wpS Tryz.func46 rfl fun c₀ cs hu => ?_
  apply wpS_seq
  apply wpS_region
  simp [wpOpsS, go_sem, recoverD, hu, Tryz.ntmps46, Exit.thenS]
  refine wpS_of_wp ?_
  refine wp_by (n := ⟨14, []⟩) (w0 := ⟨w0, fun _ _ _ => False⟩) [(6, .nilIface)] L (fun _ M => M = L) (fun _ M => M = L) ?_ ?_ ?_ ?_ s ?_
  · exact fun _ _ _ _ _ h => h.elim
  · rintro a w f M rfl fr st
    refine ⟨fr.defers, _, by cases c₀; simp_all, .tuple #[], ?_, rfl, hu, st⟩
    simp [results, Tryz.results46]
  · rintro a w f M rfl fr st
    refine ⟨fr.defers, _, by cases c₀; simp_all, .tuple #[], ?_, rfl, hu, st⟩
    simp [results, Tryz.results46]
  · refine ⟨rfl, by simp, fun i v e => ?_⟩
    rcases i with _ | _ | _ | _ | _ | _ | _ | i <;> simp [look] at e ⊢ <;> first | exact e | (cases e; done) | (cases e; rfl)
  refine WP.block ?_
  refine WP.seq ?_
  refine WP.region ?_
  refine WO.val (PO.eqlNN rfl Tryz.runUnderlying20) rfl ?_
  refine WO.nil ?_
  refine WP.condT rfl ?_
  refine WP.region ?_
  refine WO.val (PO.assign rfl) rfl ?_
  refine WO.nil ?_
  exact rfl
@[reducible] def dsL (g : Nat × Nat × Nat) : Fs := ⟨114, [⟨.fn (.func 46) #[.pointer (some ⟨g.1, 0, none⟩), .pointer (some ⟨g.2.1, 0, none⟩), .pointer (some ⟨g.2.2, 0, none⟩)], #[]⟩]⟩
def at3 (g : Nat × Nat × Nat) (f : Frm) : Prop := look f 4 = some (.pointer (some ⟨g.1, 0, none⟩)) ∧ look f 5 = some (.pointer (some ⟨g.2.1, 0, none⟩)) ∧ look f 7 = some (.pointer (some ⟨g.2.2, 0, none⟩))
def CxL [GlobFix] (r : Except Int (St × List Int)) (w0 : World) (F : HP) (g : Nat × Nat × Nat) : Ctx := ⟨w0, fun v f L => at3 g f ∧ ∃ q u4 u5 u7 R, r = .error q ∧ v = faultV.val q ∧ ∀ w, Sat w0 L w → Sat w0 (gl :: F :: ptL 23 g.1 u4 :: ptL 24 g.2.1 u5 :: ptL 28 g.2.2 u7 :: R) w⟩
def RtL [GlobFix] (r : Except Int (St × List Int)) (w0 : World) (F : HP) (g : Nat × Nat × Nat) : Cn := fun f L => at3 g f ∧ ∃ S l s v R, r = .ok (S, l) ∧
  ∀ w, Sat w0 L w → Sat w0 (gl :: F :: ptL 23 g.1 (.pointer (some ⟨s, 0, none⟩)) :: ptL 24 g.2.1 v :: ptL 28 g.2.2 (.int .i64 0) :: stAt s S :: slc 3 1 v l.length (fl ic l) :: R) w
def valL (a : Except Int (St × List Int)) (c : Nat × Value × Value) : Value := match a with
  | .ok _ => .tuple #[.pointer (some ⟨c.1, 0, none⟩), c.2.1, c.2.2, .int .i64 0]
  | .error q => .tuple #[.pointer none, .slice none 0 0, c.2.2, .int .i64 q]
def postL [GlobFix] (a : Except Int (St × List Int)) (c : Nat × Value × Value) : List HP := match a with
  | .ok x => [gl, stAt c.1 x.1, slc 3 1 c.2.1 x.2.length (fl ic x.2)]
  | .error _ => [gl]
theorem TriX.ofLoad [GlobFix] {r : Except Int (St × List Int)} {c : Code} {fn : Func} {text : ByteArray} {limit : Int} (hf : Tryz.prog.funcs[23]? = some fn) (hb : fn.body = some c) (hm : fn.ntmps = 114)
    (hrs : fn.results = #[.cell 4 23, .cell 5 24, .tmp 6, .cell 7 28])
    (h : ∀ (w0 : World) (F : HP), WPD Tryz.prog ⟨114, []⟩ ⟨w0, fun _ _ _ => False⟩ dsL (CxL r w0 F) (RtL r w0 F) c (argF 0 [.string text, .int .i64 limit]) [gl, F]) :
    TriX Tryz.prog 23 [.string text, .int .i64 limit] [gl] (.ok r) faultV valL postL := by
  intro w0 F w s
  refine calls_of_wp_defers hf hb (h w0 F _ (fun _ _ _ _ _ h => h.elim) ?_ ?_ _ _ ?_ s)
  · rintro g v f a w L ⟨⟨h4, h5, h7⟩, q, u4, u5, u7, R, rfl, rfl, hS⟩ fr s
    show Leaves _ _ _ _ a.defers _ _
    rw [fr.defers]
    have s1 : Sat w0 ([gl, F, ptL 23 g.1 u4, ptL 24 g.2.1 u5, ptL 28 g.2.2 u7] ++ R) w := hS w s
    have s2 := Sat.pre (w0 := ⟨w0, fun _ _ _ => False⟩) s1
    refine leaves_cons (f := 46) (args := #[.pointer (some ⟨g.1, 0, none⟩), .pointer (some ⟨g.2.1, 0, none⟩), .pointer (some ⟨g.2.2, 0, none⟩)]) (by simp) (by simp [go_sem]) ?_
    refine (d_fault s2).mono ?_
    rintro e u' w' ⟨rfl, rfl, s3⟩
    have fr6 := fr.own 6
    have hr := Res.four (P := Tryz.prog) (w0 := ⟨w0, fun _ _ _ => False⟩) (n := dsL g) (f := (6, a.tmps.getD 6 undef) :: f) (L := [gl, F, ptL 23 g.1 (.pointer none), ptL 24 g.2.1 (.slice none 0 0), ptL 28 g.2.2 (.int .i64 q)])
      (RV.cell1 (t := 4) 2 h4 Tryz.isAgg23 rfl rfl) (RV.cell1 (t := 5) 3 h5 Tryz.isAgg24 rfl rfl) (RV.tmp (t := 6) rfl) (RV.cell1 (t := 7) 4 h7 Tryz.isAgg28 rfl rfl)
    refine ⟨_, hr a w' fn hrs fr6 s3, .error q, (0, undef, a.tmps.getD 6 undef), rfl, rfl, ?_⟩
    exact Sat.pre (w0 := ⟨w0, fun _ _ _ => False⟩) (A := [gl, F]) (B := [_, _, _]) s3
  · rintro g a w f L ⟨⟨h4, h5, h7⟩, S, l, s_, v, R, rfl, hS⟩ fr s
    show Leaves _ _ _ _ a.defers _ _
    rw [fr.defers]
    have s1 : Sat w0 ([gl, F, ptL 23 g.1 (.pointer (some ⟨s_, 0, none⟩)), ptL 24 g.2.1 v, ptL 28 g.2.2 (.int .i64 0), stAt s_ S, slc 3 1 v l.length (fl ic l)] ++ R) w := hS w s
    have s3 := Sat.pre (w0 := ⟨w0, fun _ _ _ => False⟩) s1
    refine leaves_cons (f := 46) (args := #[.pointer (some ⟨g.1, 0, none⟩), .pointer (some ⟨g.2.1, 0, none⟩), .pointer (some ⟨g.2.2, 0, none⟩)]) (by simp) (by simp [go_sem]) ?_
    refine (d_ok s3).mono ?_
    rintro e u' w' ⟨rfl, rfl, s3⟩
    have fr6 := fr.own 6
    have hr := Res.four (P := Tryz.prog) (w0 := ⟨w0, fun _ _ _ => False⟩) (n := dsL g) (f := (6, a.tmps.getD 6 undef) :: f) (L := [gl, F, ptL 23 g.1 (.pointer (some ⟨s_, 0, none⟩)), ptL 24 g.2.1 v, ptL 28 g.2.2 (.int .i64 0), stAt s_ S, slc 3 1 v l.length (fl ic l)])
      (RV.cell1 (t := 4) 2 h4 Tryz.isAgg23 rfl rfl) (RV.cell1 (t := 5) 3 h5 Tryz.isAgg24 rfl rfl) (RV.tmp (t := 6) rfl) (RV.cell1 (t := 7) 4 h7 Tryz.isAgg28 rfl rfl)
    refine ⟨_, hr a w' fn hrs fr6 s3, .ok (S, l), (s_, v, a.tmps.getD 6 undef), rfl, rfl, ?_⟩
    have s4 := Sat.out (w0 := w0) (F := F) (B := [gl, stAt s_ S, slc 3 1 v l.length (fl ic l)]) [0, 5, 6, 1] rfl s3
    exact Sat.pre (w0 := ⟨w0, fun _ _ _ => False⟩) (A := [gl, stAt s_ S, slc 3 1 v l.length (fl ic l), F]) (B := [_, _, _, _, _, _, _]) s4
  · refine ⟨rfl, by simp [hm], fun i v e => ?_⟩
    have := (argF_look [.string text, .int .i64 limit] 0 i v e).2
    have this : #[Value.string text, Value.int .i64 limit][i]? = some v := by simpa using this
    have hi : i < (#[Value.string text, Value.int .i64 limit]).size := by
      rcases Nat.lt_or_ge i (#[Value.string text, Value.int .i64 limit]).size with q | q
      · exact q
      · rw [Array.getElem?_eq_none q] at this; cases this
    show (#[Value.string text, Value.int .i64 limit] ++ _).getD i undef = v
    rw [Array.getD_eq_getD_getElem?, Array.getElem?_append_left hi, this]; rfl
end Go.Proofs.YtlnionilhagenaaGreatDoor
