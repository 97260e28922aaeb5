import Derived.Test.YtlnionilhagenaaGreatDoorCap
namespace Go.Proofs.YtlnionilhagenaaGreatDoor
open Go.RowKit
set_option linter.all false
theorem TriV.pack {P : Program} {g : FuncId} {args : List Value} {A B : HP} {v : Value} (h : TriV P g args [A, B] v [A, B]) : TriV P g args [sep [A, B]] v [sep [A, B]] := by
  have e : ∀ (F : HP), sep ([sep [A, B]] ++ [F]) = sep ([A, B] ++ [F]) := fun F => by rw [sep_append, sep_append, sep_one (sep [A, B])]
  intro w0 F w s
  refine (h w0 F w (s.eq (e F))).mono ?_
  rintro (_ | _ | _) w' q
  · obtain ⟨C, ⟨e1, e2⟩, s'⟩ := q
    subst e2
    exact ⟨_, ⟨e1, rfl⟩, s'.eq (e F).symm⟩
  · exact q
  · exact q
/-- What Put hands over: a look into a map. -/
theorem hlf_Put {q0 m9 : Nat} {M : List (ByteArray × Int)} : HypLf (.func (.func 29) #[] #[.pointer (some ⟨q0, 0, none⟩)]) (sep [pt q0 (.cells #[.map (some m9)] 69 (0, 0)), mapAt sv iv m9 M]) (fun n => (mget M n.Name).getD 0) :=
  ⟨_, _, _, rfl, Tryz.call29, fun x => TriV.pack (t_Ev_Put1 (n := x) (Mc := M) (r := ((mget M x.Name).getD 0, 0)) (by unfold s_Ev_Put1; rfl))⟩
end Go.Proofs.YtlnionilhagenaaGreatDoor
