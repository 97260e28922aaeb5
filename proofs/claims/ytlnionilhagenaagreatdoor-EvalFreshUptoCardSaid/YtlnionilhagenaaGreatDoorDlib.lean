import Derived.Test.YtlnionilhagenaaGreatDoorTxt
import Derived.Test.YtlnionilhagenaaGreatDoorShelf
import Derived.WalkKit
/-! # The library's contracts as triples; the variables that they read -/
namespace Go.Proofs.YtlnionilhagenaaGreatDoor
open Go.RowKit
set_option linter.all false
/-- The part of the heap that the package variables are. -/
class GlobFix where
  G : Hp
/-- The package variables that the library's functions read: they stay as they are. -/
def gl [g : GlobFix] : HP := fun h => h = g.G ∧ (∃ m T z, h 4 = some (.cells #[.int .i64 m] T z)) ∧ (∃ T z, h 1 = some (.cells (Lib.asciiSpaceTab.map fun z => Value.int .u8 z).toArray T z)) ∧
  (∃ v T z, h 7 = some (.cells #[v] T z) ∧ (v = .nilIface ∨ ∃ te pe, v = .iface te pe)) ∧ (∃ v T z, h 8 = some (.cells #[v] T z) ∧ (v = .nilIface ∨ ∃ te pe, v = .iface te pe))
/-- Panics of what reads those variables. -/
def faultG [GlobFix] : Pf := ⟨faultV.val, gl⟩
theorem TriX.lib {P : Program} {α γ : Type} {g : FuncId} {args : List Value} {A : List HP} {r : Except Int α} {fv : Pf} {val : α → γ → Value} {B : α → γ → List HP}
    (h : ∀ (w0 : World) (F : HP) (w : World), Sat w0 (A ++ [F]) w → Calls P g args.toArray w fun e w' => ∃ a c, e = .returned (val a c) ∧ r = .ok a ∧ Sat w0 (B a c ++ [F]) w') : TriX P g args A r fv val B := by
  intro w0 F w s
  refine (h w0 F w s).mono ?_
  rintro e w' ⟨a, c, rfl, hr, s'⟩
  exact ⟨a, c, hr, rfl, s'⟩
theorem fl_sc (l : List ByteArray) : fl sc l = l.map Value.string := by
  induction l with
  | nil => rfl
  | cons a l ih => simp only [fl, sc, ih, List.map_cons]; rfl
theorem slc_of {b cap len k : Nat} {cs : Array Value} {T : TypeId} {xs : List Value} {h : Hp} (hp : pt b (.cells cs T (0, 0)) h) (hl : xs.length = len * k) (hc : len ≤ cap) (hm : cap ≤ maxLen) (hz : cs.size = cap * k) (ht : cs.toList.take xs.length = xs) :
    slc T k (.slice (some ⟨b, 0, none⟩) len cap) len xs h := .inr ⟨b, cap, rfl, hl, hc, hm, cs, hz, ht, hp⟩
theorem Sat.last {w0 w : World} {A F X Y : HP} (s : Sat w0 ([A, F] ++ [X]) w) (h : ∀ q, X q → Y q) : Sat w0 ([A, Y] ++ [F]) w := by
  have s1 : Sat w0 (X :: [A, F]) w := s.perm (by exact (List.perm_append_comm (l₁ := [A, F]) (l₂ := [X])))
  have s2 : Sat w0 (Y :: [A, F]) w := by
    obtain ⟨b, hp, q, h1, h2, dd, e, a1, a2⟩ := s1
    exact ⟨b, hp, q, h1, h2, dd, e, h _ a1, a2⟩
  exact s2.perm (List.Perm.swap A Y [F])
/-! ## strings.Split -/
def s_strings_Split (s sep : ByteArray) : Option (List ByteArray) := if s.size < 4294967281 ∧ 1 ≤ sep.size then some (Lib.splitB sep 0 (Lib.countB s sep) s) else none
theorem t_strings_Split [GlobFix] {s sep : ByteArray} {r : List ByteArray} (hs : s_strings_Split s sep = some r) :
    TriX Tryz.prog 45 [.string s, .string sep] [gl] (.ok r) faultV (fun (a : List ByteArray) (c : Value) => c) (fun a c => [gl, slc 9 1 c a.length (fl sc a)]) := by
  unfold s_strings_Split at hs
  split at hs
  · rename_i hc
    cases hs
    refine TriX.lib fun w0 F w st => ?_
    obtain ⟨h1, ⟨_, ⟨m, T, z, hm⟩, _⟩, hh⟩ := Sat.pick (w0 := ⟨w0, fun _ _ _ => False⟩) (i := 0) (A := gl) st rfl
    have hcell : w.cell? ⟨4, 0, none⟩ = some (.int .i64 m) := by simp [World.cell?, hh _ _ hm]
    have hle := Lib.countB_le sep hc.2 s.size s (Nat.le_refl _)
    have hlen := Lib.splitB_all sep hc.2 0 _ s rfl
    refine (Tryz.strings_Split s sep m w hc.1 hcell hc.2).mono ?_
    rintro e w' ⟨rfl, rfl⟩
    refine ⟨_, _, rfl, rfl, ?_⟩
    refine (st.alloc _).last fun q hq => ?_
    rw [hlen]
    refine slc_of hq (by rw [fl_sc, List.length_map, hlen, Nat.mul_one]) (Nat.le_refl _) (by simp only [maxLen]; omega) (by simp [hlen]) (by rw [fl_sc]; exact List.take_length)
  · cases hs
/-! ## strings.Fields -/
def s_strings_Fields (s : ByteArray) : Option (List ByteArray) := if s.size < 4294967281 ∧ (s.data.toList.all fun b => decide (b.toNat < 128)) = true then some ((Lib.fields s.data.toList).map fun l => ⟨l.toArray⟩) else none
theorem t_strings_Fields [GlobFix] {s : ByteArray} {r : List ByteArray} (hs : s_strings_Fields s = some r) :
    TriX Tryz.prog 68 [.string s] [gl] (.ok r) faultV (fun (a : List ByteArray) (c : Value) => c) (fun a c => [gl, slc 9 1 c a.length (fl sc a)]) := by
  unfold s_strings_Fields at hs
  split at hs
  · rename_i hc
    cases hs
    refine TriX.lib fun w0 F w st => ?_
    obtain ⟨h1, ⟨_, _, ⟨T, z, ht⟩, _⟩, hh⟩ := Sat.pick (w0 := ⟨w0, fun _ _ _ => False⟩) (i := 0) (A := gl) st rfl
    have hg : Tryz.prog.globalNamed "strings.asciiSpace" = some 1 := by kernel_rfl
    have htab : Lib.TabIs Tryz.prog w "strings.asciiSpace" .u8 Lib.asciiSpaceTab := by
      unfold Lib.TabIs World.var?
      rw [hg, Option.bind_some, hh _ _ ht]
    have hasc : ∀ (j : Nat) b, s.data.toList[j]? = some b → b.toNat < 128 := fun j b hb => by
      have := List.all_eq_true.1 hc.2 b (List.mem_of_getElem? hb)
      simpa using this
    have hlen : (Lib.fields s.data.toList).length ≤ s.size := by
      rw [Lib.fields_length]
      have : ∀ (l : List UInt8) (b : Bool), Lib.cntF b l ≤ l.length := by
        intro l
        induction l with
        | nil => intro b; simp [Lib.cntF]
        | cons a l ih =>
          intro b
          have := ih (Lib.isSp a)
          simp only [Lib.cntF, List.length_cons]
          split <;> omega
      exact this _ _
    refine (Tryz.strings_Fields s w hc.1 hasc htab).mono ?_
    rintro e w' ⟨rfl, rfl⟩
    refine ⟨_, _, rfl, rfl, ?_⟩
    refine (st.alloc _).last fun q hq => ?_
    rw [List.length_map]
    refine slc_of hq (by rw [fl_sc, List.length_map, List.length_map, Nat.mul_one]) (Nat.le_refl _) (by simp only [maxLen]; omega) (by simp) (by rw [fl_sc, List.map_map]; exact List.take_length)
  · cases hs
/-! ## strings.FieldsFunc, at the blank -/
def isBlank (r : Nat) : Bool := decide ((r : Int) = 32)
theorem pred_blank (w : World) : PredAt Tryz.prog 48 #[] encR isBlank w := fun W r _ => by
  unfold FnGives
  go_enter Tryz.func48, Tryz.ntmps48
  go_wp2
  go_ret
  exact ⟨rfl, 0, rfl⟩
def s_FieldsFunc (s : ByteArray) : Option (List ByteArray) := if s.size ≤ 4294967296 then some (Lib.goFieldsP isBlank s) else none
theorem t_FieldsFunc [GlobFix] {s : ByteArray} {r : List ByteArray} (hs : s_FieldsFunc s = some r) :
    TriX Tryz.prog 47 [.string s, .func (.func 48) #[] #[]] [gl] (.ok r) faultV (fun (a : List ByteArray) (c : Value) => c) (fun a c => [gl, slc 9 1 c a.length (fl sc a)]) := by
  unfold s_FieldsFunc at hs
  split at hs
  · rename_i hc
    cases hs
    refine TriX.lib fun w0 F w st => ?_
    refine (Tryz.strings_FieldsFunc 48 #[] Tryz.call48 isBlank s w hc (pred_blank w)).mono ?_
    rintro e w' ⟨A, rfl, hA, hrow, hb⟩
    refine ⟨_, _, rfl, rfl, ?_⟩
    obtain ⟨hl, hr⟩ := hrow
    rcases hr with ⟨he, _⟩ | ⟨gb, cap, cur, he, hg, hcur, h1, h2, h3, h4⟩
    · cases he
    · cases he
      refine (st.grownPt hb hA hcur).last fun q hq => ?_
      refine slc_of hq (by rw [fl_sc]; simpa using hl) h1 h2 (by simpa using h3) ?_
      rw [fl_sc, List.length_map, ← h4]; simp
  · cases hs
/-! ## strconv.toError -/
def s_toError (fn s : ByteArray) (base bits e : Int) : Option Int := if s.size ≤ 281474976710656 ∧ (e = 1 ∨ e = 2) then some 1 else none
theorem t_toError [GlobFix] {fn s : ByteArray} {base bits e : Int} {r : Int} (hs : s_toError fn s base bits e = some r) :
    TriX Tryz.prog 108 [.string fn, .string s, .int .i64 base, .int .i64 bits, errI e] [gl] (.ok r) faultV (fun (a : Int) (c : Value) => errO a c) (fun a c => [gl]) := by
  unfold s_toError at hs
  split at hs
  · rename_i hc
    cases hs
    refine TriX.lib fun w0 F w st => ?_
    obtain ⟨h1, ⟨_, _, _, ⟨v1, T1, z1, hv1, he1⟩, ⟨v2, T2, z2, hv2, he2⟩⟩, hh⟩ := Sat.pick (w0 := ⟨w0, fun _ _ _ => False⟩) (i := 0) (A := gl) st rfl
    rcases hc.2 with rfl | rfl
    · refine (Tryz.strconv_toError_range fn s base bits v2 w hc.1 (by simp [World.cell?, hh _ _ hv2]) he2).mono ?_
      rintro e w' ⟨N, rfl, _, _, hb⟩
      exact ⟨1, _, rfl, rfl, st.grown hb⟩
    · refine (Tryz.strconv_toError_syntax fn s base bits v1 w hc.1 (by simp [World.cell?, hh _ _ hv1]) he1).mono ?_
      rintro e w' ⟨N, rfl, _, _, hb⟩
      exact ⟨1, _, rfl, rfl, st.grown hb⟩
  · cases hs
end Go.Proofs.YtlnionilhagenaaGreatDoor
