import Derived.Test.YtlnionilhagenaaGreatDoorEv
import Derived.Test.YtlnionilhagenaaGreatDoorSl12
namespace Go.Proofs.YtlnionilhagenaaGreatDoor
open Go.RowKit
set_option linter.all false
/-- What is asked of a function value that is handed over: for each node a number, and no error. -/
def HypLf (lf : Value) (kp : HP) (φ : Nd → Int) : Prop := ∃ h fi ca, lf = .func (.func h) fi ca ∧ (∀ args w, (callFunc h args).run Tryz.prog w = .ok (.enter h args) w) ∧ ∀ x : Nd, TriV Tryz.prog h (fi.toList ++ [x.val] ++ ca.toList) [kp] (.tuple #[.int .i64 (φ x), .int .i64 0]) [kp]
theorem EO.callLf {n : Fs} {w0 : Ctx} {f : Frm} {L : List HP} {d : Option Nat} {ty : TypeId} {pos : String} {af : Array Edge} {g : Option (Nat × Bool)} {y x1 : Operand} {tys : Array TypeId} {lf : Value} {kp : HP} {φ : Nd → Int} {m : Nd} (i : Nat)
    (hy : ev f y = some lf) (h1 : ev f x1 = some m.val) (hr : HypLf lf kp φ) (hl : nth L i = some kp) :
    EO Tryz.prog n w0 f L ⟨d, .call ⟨.value y, #[x1], tys⟩, ty, pos, af, g⟩ fun v' L' => v' = .tuple #[.int .i64 (φ m), .int .i64 0] ∧ L' = L := by
  obtain ⟨h, fi, ca, rfl, hc, ht⟩ := hr
  exact fun Q hE K a w fr s hK => EO.call (A := [kp]) (sep (delN L i)) (fun a w fr _ => run_callV hc hy (evs_cons h1 evs_nil) rfl a w fr) (ht m) (by rw [List.singleton_append, sep_cons, sep_one]; exact sep_nth hl) Q hE K a w fr s
    (fun u L' w' ⟨C, ⟨e1, e2⟩, e4⟩ s => by
      subst e1; subst e2; subst e4
      exact hK _ _ _ ⟨rfl, rfl⟩ (s.eq (by rw [List.singleton_append, sep_cons, sep_one]; exact (sep_nth hl).symm)))
end Go.Proofs.YtlnionilhagenaaGreatDoor
