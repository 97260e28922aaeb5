import Derived.Test.YtlnionilhagenaaGreatDoorCards
import Derived.Test.YtlnionilhagenaaGreatDoorTie
import Derived.Test.YtlnionilhagenaaGreatDoorDlib
import Derived.ProofKit
import Derived.OpenShut
import Derived.LaidMore
import Derived.LaidHandle
import Derived.LaidLaws
import Derived.Lib.LaidU8
import Derived.Shelf.Vars
import Derived.Deep.DeepHandedRow
import Derived.Deep.DeepWitnessRowRef
/-! # From a row's condition to the variables' heap; from a triple to a row's post -/
namespace Go.Proofs.YtlnionilhagenaaGreatDoor
open Go.ChangeShapes Go.WideShapes Go.ChangeAt Go.RowKit
open Go.ChangeMaps (open_string shut_string)
set_option linter.all false
set_option maxRecDepth 100000
set_option maxHeartbeats 4000000
theorem own : ownKnob Tryz.prog.godebug = none := by kernel_rfl
theorem laidMetH_data {P : Program} {l : List (String × DataW Unit)} {w : World} (h : laidMetH P l w) : laidMet P (l.filter fun x => x.2.handleName?.isNone) w := by
  unfold laidMetH at h
  split at h
  · rename_i e
    have : (l.filter fun x => x.2.handleName?.isNone) = l := by
      rw [List.filter_eq_self]
      intro x hx
      have := List.filter_eq_nil_iff.1 e x hx
      simpa using this
    rw [this]; exact h
  · exact h.1
theorem reads_of {P : Program} {l : List (String × DataW Unit)} {w : World} (h : laidMetH P l w) {n : String} {d : DataW Unit} (hm : (n, d) ∈ l) (hn : d.handleName?.isNone = true) : Lib.VarReads P w n d :=
  Lib.laidMet.reads (laidMetH_data h) (List.mem_filter.2 ⟨hm, hn⟩)
theorem heap_of_var {P : Program} {w : World} {n : String} {g : Nat} {cs : Array Value} (hg : P.globalNamed n = some g) (h : w.var? P n = some cs) : ∃ T z, w.heap[g]? = some (.cells cs T z) := by
  unfold World.var? at h
  rw [hg, Option.bind_some] at h
  split at h
  · rename_i c t z e
    cases h
    exact ⟨t, z, e⟩
  · cases h
theorem err_reads {w : World} {n : String} {g : Nat} {nm : String} {d : DataW Unit} (hg : Tryz.prog.globalNamed n = some g) (ht : (Tryz.prog.globals[g]?).map (·.type) = some 71) (h : Lib.VarReads Tryz.prog w n (.iface nm d)) :
    ∃ v T z, w.heap[g]? = some (.cells #[v] T z) ∧ (v = .nilIface ∨ ∃ te pe, v = .iface te pe) := by
  obtain ⟨g', t, cs, fuel, p, h1, h2, h3, h4⟩ := h
  obtain rfl := Option.some.inj (hg.symm.trans h1)
  obtain rfl := Option.some.inj (ht.symm.trans h2)
  obtain ⟨_, u, v, e, _, _⟩ := iface_of_trod Tryz.underlying71 h4
  have hc : cs = #[.iface u v] := by cases cs; simp at e; simp [e]
  subst hc
  obtain ⟨T, z, hh⟩ := heap_of_var hg h3
  exact ⟨_, T, z, hh, .inr ⟨u, v, rfl⟩⟩
theorem tab_reads {w : World} (h : Lib.VarReads Tryz.prog w "strings.asciiSpace" Rows.laid_strings_asciiSpace) : ∃ T z, w.heap[1]? = some (.cells (Lib.asciiSpaceTab.map fun z => Value.int .u8 z).toArray T z) := by
  obtain ⟨g, t, cs, fuel, p, h1, h2, h3, h4⟩ := h
  have hg : Tryz.prog.globalNamed "strings.asciiSpace" = some 1 := by kernel_rfl
  obtain rfl := Option.some.inj (hg.symm.trans h1)
  have ht : (Tryz.prog.globals[1]?).map (·.type) = some 161 := by kernel_rfl
  obtain rfl := Option.some.inj (ht.symm.trans h2)
  have hd : (Rows.laid_strings_asciiSpace : DataW Unit) = Lib.tabData .u8 Lib.asciiSpaceTab := by kernel_rfl
  rw [hd] at h4
  have e := Lib.cells_of_tab Tryz.underlying161 Tryz.underlying5 (by kernel_rfl) (by kernel_rfl) h4
  have hc : cs = (Lib.asciiSpaceTab.map fun z => Value.int .u8 z).toArray := by cases cs; simp at e; simp [e]
  subst hc
  exact heap_of_var hg h3
theorem max_reads {w : World} (h : w.ShapedOpen Tryz.prog) : ∃ m T z, w.heap[4]? = some (.cells #[.int .i64 m] T z) := by
  have h0 : ((begin Tryz.prog (fun _ _ => 0) default).world.heap[4]?).bind Obj.row? = some (#[.int .i64 0], 3) := by kernel_rfl
  have hg : 4 < Tryz.prog.globals.size := of_decide_eq_true (by kernel_rfl)
  obtain ⟨m, hm⟩ := cell_of_shapedOpen_int h hg h0 rfl (by kernel_rfl) (by kernel_rfl) Tryz.underlying3
  obtain ⟨cs, hh, hs, _⟩ := h.1 _ _ _ hg h0
  have hs : cs.size = 1 := hs
  have : cs = #[.int .i64 m] := by
    simp [World.cell?, hh] at hm
    apply Array.ext'
    have hl : cs.toList.length = 1 := by simpa using hs
    match hc : cs.toList, hl with
    | [x], _ =>
      have : cs[0]? = some x := by rw [← Array.getElem?_toList, hc]; rfl
      rw [this] at hm; cases hm; rfl
  subst this
  exact ⟨m, _, _, hh⟩
/-- The numbers of those variables. -/
def isG (b : Nat) : Bool := b == 4 || b == 1 || b == 7 || b == 8
@[reducible] def gOf (W : World) : GlobFix := ⟨fun b => if isG b = true then W.heap[b]? else none⟩
def restOf (W : World) : HP := fun h => h = fun b => if isG b = true then none else W.heap[b]?
theorem sat_start {W : World} {l : List (String × DataW Unit)} (hL : laidMetH Tryz.prog l W) (hsh : W.ShapedOpen Tryz.prog)
    (ha : ("strings.asciiSpace", Rows.laid_strings_asciiSpace) ∈ l) (hs : ("strconv.ErrSyntax", Rows.laid_strconv_ErrSyntax) ∈ l) (hr : ("strconv.ErrRange", Rows.laid_strconv_ErrRange) ∈ l) : Sat W [@gl (gOf W), restOf W] W := by
  refine ⟨Below.refl 0 W, fun b => W.heap[b]?, fun b o h => h, ?_⟩
  rw [sep_cons, sep_one]
  refine ⟨fun b => if isG b = true then W.heap[b]? else none, fun b => if isG b = true then none else W.heap[b]?, fun b => ?_, ?_, ⟨rfl, ?_, ?_, ?_, ?_⟩, rfl⟩
  · show (if isG b = true then W.heap[b]? else none) = none ∨ (if isG b = true then none else W.heap[b]?) = none
    cases h : isG b
    · left; rfl
    · right; rfl
  · funext b; unfold Hp.un
    cases h : isG b <;> simp [h]
  · exact max_reads hsh
  · exact tab_reads (reads_of hL ha (by kernel_rfl))
  · exact err_reads (by kernel_rfl) (by kernel_rfl) (reads_of hL hs (by kernel_rfl))
  · exact err_reads (by kernel_rfl) (by kernel_rfl) (reads_of hL hr (by kernel_rfl))
theorem sat_end {W w' : World} (s : Sat W [@gl (gOf W), restOf W] w') : Below W.heap.size W w' := by
  obtain ⟨bs, h, q, hs⟩ := s
  rw [sep_cons, sep_one] at hs
  obtain ⟨h1, h2, d, rfl, ⟨e1, _⟩, e2⟩ := hs
  refine ⟨bs.os, bs.tape, bs.output, bs.size, fun k hk => ?_⟩
  have e2 : h2 = fun b => if isG b = true then none else W.heap[b]? := e2
  have hk' : W.heap[k]? = some W.heap[k] := by simp [hk]
  rw [hk']
  apply q
  unfold Hp.un
  rw [e1, e2]
  show ((if isG k = true then W.heap[k]? else none).or (if isG k = true then none else W.heap[k]?)) = _
  cases isG k <;> simp [hk]
/-- WHAT A TRIPLE GIVES A ROW: a text comes in, true comes back. -/
theorem calls_of {f : FuncId} {W : World} {l : List (String × DataW Unit)} (hL : laidMetH Tryz.prog l W) (hsh : W.ShapedOpen Tryz.prog)
    (ha : ("strings.asciiSpace", Rows.laid_strings_asciiSpace) ∈ l) (hs : ("strconv.ErrSyntax", Rows.laid_strconv_ErrSyntax) ∈ l) (hr : ("strconv.ErrRange", Rows.laid_strconv_ErrRange) ∈ l) {args : List Value}
    (ht : TriX Tryz.prog f args [@gl (gOf W)] (.ok true) faultV (fun (a_ : Bool) (_ : Unit) => .bool a_) (fun a_ _ => [@gl (gOf W)])) :
    Calls Tryz.prog f args.toArray W fun e w' => e = .returned (.bool true) ∧ Below W.heap.size W w' := by
  refine (ht W (restOf W) W (sat_start hL hsh ha hs hr)).mono ?_
  intro e w' q
  cases e with
  | returned v =>
    obtain ⟨a, c, e1, rfl, s'⟩ := q
    cases e1
    exact ⟨rfl, sat_end s'⟩
  | panicked _ => obtain ⟨q, e1, _⟩ := q; cases e1
  | outgrown => exact q.elim
end Go.Proofs.YtlnionilhagenaaGreatDoor
