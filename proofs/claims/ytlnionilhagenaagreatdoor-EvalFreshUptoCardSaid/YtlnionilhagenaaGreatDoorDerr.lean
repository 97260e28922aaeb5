import Derived.Test.YtlnionilhagenaaGreatDoorEv
import Derived.Test.YtlnionilhagenaaGreatDoorSl12
/-! # Errors of numbers' texts; the program's own variables -/
namespace Go.Proofs.YtlnionilhagenaaGreatDoor
open Go.RowKit
set_option linter.all false
/-- An error of the inner package: 0 is none. -/
def errI (e : Int) : Value := bif e == 0 then .nilIface else .iface 210 (.int .i64 e)
/-- An error of the outer package; c: where it lies. -/
def errO (e : Int) (c : Value) : Value := bif e == 0 then .nilIface else .iface 212 c
section
variable {P : Program} {n : Fs} {w0 : Ctx} {f : Frm} {L : List HP} {d : Option Nat} {ty : TypeId} {pos : String} {af : Array Edge} {g : Option (Nat × Bool)}
theorem run_eqIN {t : TypeId} {ms : Array (String × TypeId)} {a : TypeId} {v : Value} (d : Nat) (w : World) (hu : ∀ w, (underlying t).run P w = .ok (.interface ms) w) : (Op.equalIn (d + 1) t (.iface a v) .nilIface).run P w = .ok false w := by
  simp [Op.equalIn, hu]
theorem run_eqIN' {t : TypeId} {ms : Array (String × TypeId)} {a : TypeId} {v : Value} (w : World) (hu : ∀ w, (underlying t).run P w = .ok (.interface ms) w) : (Op.equal t (.iface a v) .nilIface).run P w = .ok false w := run_eqIN 9999 w hu
theorem PO.neqIN {t u : TypeId} {x : Operand} {ms : Array (String × TypeId)} {a : TypeId} {v : Value} (hx : ev f x = some (.iface a v)) (hu : ∀ w, (underlying t).run P w = .ok (.interface ms) w) :
    PO P n w0 f L ⟨d, .binOp .neq t x (.const .nilIface) u, ty, pos, af, g⟩ (.bool true) := PO.bin hx rfl fun w => by
  have h := run_eqIN' (a := a) (v := v) w hu
  simp [eqGuard, binOp, h] <;> rfl
theorem PO.eqlIN {t u : TypeId} {x : Operand} {ms : Array (String × TypeId)} {a : TypeId} {v : Value} (hx : ev f x = some (.iface a v)) (hu : ∀ w, (underlying t).run P w = .ok (.interface ms) w) :
    PO P n w0 f L ⟨d, .binOp .eql t x (.const .nilIface) u, ty, pos, af, g⟩ (.bool false) := PO.bin hx rfl fun w => by
  have h := run_eqIN' (a := a) (v := v) w hu
  simp [eqGuard, binOp, h] <;> rfl
end
section
variable {n : Fs} {w0 : Ctx} {f : Frm} {L : List HP} {d : Option Nat} {ty : TypeId} {pos : String} {af : Array Edge} {g : Option (Nat × Bool)}
theorem PO.neqErrI {u : TypeId} {x : Operand} {e : Int} (hx : ev f x = some (errI e)) : PO Tryz.prog n w0 f L ⟨d, .binOp .neq 71 x (.const .nilIface) u, ty, pos, af, g⟩ (.bool (e != 0)) := by
  by_cases h : e = 0
  · subst h; exact PO.neqNN hx Tryz.runUnderlying71
  · have h1 : (e == 0) = false := by simpa using h
    have h2 : (e != 0) = true := by simpa using h
    rw [h2]; exact PO.neqIN (by rw [hx, errI, h1]; rfl) Tryz.runUnderlying71
theorem PO.neqErrO {u : TypeId} {x : Operand} {e : Int} {c : Value} (hx : ev f x = some (errO e c)) : PO Tryz.prog n w0 f L ⟨d, .binOp .neq 71 x (.const .nilIface) u, ty, pos, af, g⟩ (.bool (e != 0)) := by
  by_cases h : e = 0
  · subst h; exact PO.neqNN hx Tryz.runUnderlying71
  · have h1 : (e == 0) = false := by simpa using h
    have h2 : (e != 0) = true := by simpa using h
    rw [h2]; exact PO.neqIN (by rw [hx, errO, h1]; rfl) Tryz.runUnderlying71
end
end Go.Proofs.YtlnionilhagenaaGreatDoor
