import Derived.Test.YtlnionilhagenaaGreatDoorSl10
/-! # Interface values; functions as arguments -/
namespace Go.Proofs.YtlnionilhagenaaGreatDoor
open Go.RowKit
set_option linter.all false
def isIfaceD : TypeDesc → Bool
  | .interface _ => true
  | _ => false
section
variable {P : Program} {n : Fs} {w0 : Ctx} {f : Frm} {L : List HP} {d : Option Nat} {ty : TypeId} {pos : String} {af : Array Edge} {g : Option (Nat × Bool)}
theorem PO.makeIface {t : TypeId} {x : Operand} {v : Value} {td : TypeDesc} (hx : ev f x = some v) (hu : ∀ w, (underlying t).run P w = .ok td w) (hd : isIfaceD td = false) : PO P n w0 f L ⟨d, .makeInterface t x, ty, pos, af, g⟩ (.iface t v) := fun a w fr _ => by
  have h : (Instr.makeInterface t v).run P w = .ok (.iface t v) w := by
    unfold Instr.makeInterface
    rw [Sem.run_bind, hu]
    cases td <;> first | rfl | cases hd
  simp only [execOp, fr.ev hx, Sem.run_bind, h, Result.andThen]; rfl
theorem run_eqNN {t : TypeId} {ms : Array (String × TypeId)} (d : Nat) (w : World) (hu : ∀ w, (underlying t).run P w = .ok (.interface ms) w) : (Op.equalIn (d + 1) t .nilIface .nilIface).run P w = .ok true w := by
  simp [Op.equalIn, hu]
theorem run_eqNN' {t : TypeId} {ms : Array (String × TypeId)} (w : World) (hu : ∀ w, (underlying t).run P w = .ok (.interface ms) w) : (Op.equal t .nilIface .nilIface).run P w = .ok true w := run_eqNN 9999 w hu
theorem PO.eqlNN {t u : TypeId} {x : Operand} {ms : Array (String × TypeId)} (hx : ev f x = some .nilIface) (hu : ∀ w, (underlying t).run P w = .ok (.interface ms) w) :
    PO P n w0 f L ⟨d, .binOp .eql t x (.const .nilIface) u, ty, pos, af, g⟩ (.bool true) := PO.bin hx rfl fun w => by
  have h := run_eqNN' w hu
  simp [eqGuard, binOp, h] <;> rfl
theorem PO.neqNN {t u : TypeId} {x : Operand} {ms : Array (String × TypeId)} (hx : ev f x = some .nilIface) (hu : ∀ w, (underlying t).run P w = .ok (.interface ms) w) :
    PO P n w0 f L ⟨d, .binOp .neq t x (.const .nilIface) u, ty, pos, af, g⟩ (.bool false) := PO.bin hx rfl fun w => by
  have h := run_eqNN' w hu
  simp [eqGuard, binOp, h] <;> rfl
theorem Sat.pack {w0 w : World} {L R : List HP} {A B : HP} (i j : Nat) (h : takes [i, j] L = some ([A, B], R)) (hi : nth R i = some emp) (s : Sat w0 L w) : Sat w0 (setN R i (sep [A, B])) w :=
  s.eq (by rw [takes_sep h, sep_setN (sep [A, B]) hi, sep_append, sep_nth hi, emp_star])
end
end Go.Proofs.YtlnionilhagenaaGreatDoor
