import Derived.Test.YtlnionilhagenaaGreatDoorDlib
import Derived.Test.YtlnionilhagenaaGreatDoorMake
/-! # The reader of a text -/
namespace Go.Proofs.YtlnionilhagenaaGreatDoor
open Go.RowKit
set_option linter.all false
/-- A line's words, the terms of the lines before it, the store. -/
structure Rd where
  w : List ByteArray
  terms : List Int
  st : St
def rdAt (p s : Nat) (u : Rd) : HP := ex fun (x : Value × Value) =>
  sep [pt p (.cells #[.pointer (some ⟨s, 0, none⟩), x.1, x.2] 108 (0, 0)), slw 9 1 x.1 u.w.length (fl sc u.w), slc 3 1 x.2 u.terms.length (fl ic u.terms), stAt s u.st]
section
variable {P : Program} {n : Fs} {w0 : Ctx} {N : Cn} {X : Nat → Cn} {R : Cn} {f : Frm} {L : List HP}
theorem WP.openRd {c : Code} {p s : Nat} {u : Rd} (k : ∀ (v0 v1 : Value), WP P n w0 c N X R f (pt p (.cells #[.pointer (some ⟨s, 0, none⟩), v0, v1] 108 (0, 0)) :: slw 9 1 v0 u.w.length (fl sc u.w) ::
      slc 3 1 v1 u.terms.length (fl ic u.terms) :: stAt s u.st :: L)) : WP P n w0 c N X R f (rdAt p s u :: L) :=
  fun Q hE hn hx hr a w fr st => by
    obtain ⟨⟨v0, v1⟩, st⟩ := st.ex0
    exact k v0 v1 Q hE hn hx hr a w fr st.flat
theorem rdAt_close {w : World} {p s : Nat} {u : Rd} {v0 v1 : Value} (st : Sat w0 (pt p (.cells #[.pointer (some ⟨s, 0, none⟩), v0, v1] 108 (0, 0)) :: slw 9 1 v0 u.w.length (fl sc u.w) ::
      slc 3 1 v1 u.terms.length (fl ic u.terms) :: stAt s u.st :: L) w) : Sat w0 (rdAt p s u :: L) w :=
  Sat.mkEx (A := fun (x : Value × Value) => sep [pt p (.cells #[.pointer (some ⟨s, 0, none⟩), x.1, x.2] 108 (0, 0)), slw 9 1 x.1 u.w.length (fl sc u.w), slc 3 1 x.2 u.terms.length (fl ic u.terms), stAt s u.st])
    (v0, v1) (Sat.unflat (M := [_, _, _, _]) st)
/-- A reader that is made. -/
theorem Sat.mkRd {w : World} {R : List HP} {b s : Nat} {S : St} (j i : Nat) (h : takes [j, i] L = some ([pt b (.cells #[.pointer (some ⟨s, 0, none⟩), .slice none 0 0, .slice none 0 0] 108 (0, 0)), stAt s S], R)) (st : Sat w0 L w) : Sat w0 (rdAt b s ⟨[], [], S⟩ :: R) w := by
  refine rdAt_close (u := ⟨[], [], S⟩) (v0 := .slice none 0 0) (v1 := .slice none 0 0) ?_
  have s1 : Sat w0 ([pt b (.cells #[.pointer (some ⟨s, 0, none⟩), .slice none 0 0, .slice none 0 0] 108 (0, 0)), stAt s S] ++ R) w := st.eq (takes_sep h)
  have hw : sep (emp :: pt b (.cells #[.pointer (some ⟨s, 0, none⟩), .slice none 0 0, .slice none 0 0] 108 (0, 0)) :: slc 3 1 (.slice none 0 0) ([] : List Int).length (fl ic []) :: stAt s S :: R) = sep ([pt b (.cells #[.pointer (some ⟨s, 0, none⟩), .slice none 0 0, .slice none 0 0] 108 (0, 0)), stAt s S] ++ R) := by
    rw [show slc 3 1 (.slice none 0 0) ([] : List Int).length (fl ic []) = emp from slc_nil _ _]
    simp only [List.cons_append, List.nil_append, sep_cons, emp_star]
  have s2 := s1.eq hw.symm
  obtain ⟨bs, hp, q, h1, h2, dd, e, a1, a2⟩ := s2
  have s3 : Sat w0 (slw 9 1 (.slice none 0 0) ([] : List ByteArray).length (fl sc []) :: pt b (.cells #[.pointer (some ⟨s, 0, none⟩), .slice none 0 0, .slice none 0 0] 108 (0, 0)) :: slc 3 1 (.slice none 0 0) ([] : List Int).length (fl ic []) :: stAt s S :: R) w :=
    ⟨bs, hp, q, h1, h2, dd, e, ⟨none, 0, rfl, Nat.le_refl _, rfl, .inl rfl⟩, a2⟩
  exact s3.perm (List.Perm.swap _ _ _)
theorem Sat.rdSt {w : World} {p s : Nat} {u : Rd} (st : Sat w0 (rdAt p s u :: L) w) : Sat w0 (stAt s u.st :: L) w := by
  obtain ⟨⟨v0, v1⟩, st⟩ := st.ex0
  exact st.flat.cut.cut.cut
end
end Go.Proofs.YtlnionilhagenaaGreatDoor
