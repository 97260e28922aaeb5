/- The operations that come to a value: one law each. -/
import Derived.Test.YtlnionilhagenaaGreatDoorSl2
namespace Go.Proofs.YtlnionilhagenaaGreatDoor
open Go.RowKit
set_option linter.all false

section
variable {P : Program} {n : Fs} {w0 : Ctx} {f : Frm} {L : List HP} {d : Option Tmp} {ty : TypeId} {pos : String} {af : Array Edge} {g : Option (Nat × Bool)}
theorem PO.of {p : Op} {v : Value} (h : ∀ a w, Fr n f a → Sat w0 L w → (execOp a.eval ⟨d, p, ty, pos, af, g⟩).run P w = .ok (.value v) w) : PO P n w0 f L ⟨d, p, ty, pos, af, g⟩ v := h
theorem PO.move {x : Operand} {v : Value} (hx : ev f x = some v) : PO P n w0 f L ⟨d, .move x, ty, pos, af, g⟩ v := fun a w fr _ => by
  simp only [execOp, fr.ev hx]; rfl
theorem PO.assign {x : Operand} {v : Value} (hx : ev f x = some v) : PO P n w0 f L ⟨d, .assign x, ty, pos, af, g⟩ v := fun a w fr _ => by
  simp only [execOp, fr.ev hx]; rfl
theorem PO.pick {c x y : Operand} {b : Bool} {u v : Value} (hc : ev f c = some (.bool b)) (hx : ev f x = some u) (hy : ev f y = some v) :
    PO P n w0 f L ⟨d, .pick c x y, ty, pos, af, g⟩ (bif b then u else v) := fun a w fr _ => by
  simp only [execOp, fr.ev hc, fr.ev hx, fr.ev hy]; cases b <;> rfl
theorem PO.pickAnd {c x y : Operand} {b e : Bool} (hc : ev f c = some (.bool b)) (hx : ev f x = some (bif b == true then .bool e else undef)) (hy : ev f y = some (.bool false)) :
    PO P n w0 f L ⟨d, .pick c x y, ty, pos, af, g⟩ (.bool (b && e)) := fun a w fr _ => by
  simp only [execOp, fr.ev hc, fr.ev hx, fr.ev hy]; cases b <;> rfl
theorem PO.pickOr {c x y : Operand} {b e : Bool} (hc : ev f c = some (.bool b)) (hx : ev f x = some (.bool true)) (hy : ev f y = some (bif b == false then .bool e else undef)) :
    PO P n w0 f L ⟨d, .pick c x y, ty, pos, af, g⟩ (.bool (b || e)) := fun a w fr _ => by
  simp only [execOp, fr.ev hc, fr.ev hx, fr.ev hy]; cases b <;> rfl
theorem PO.bin {o : BinOp} {t u : TypeId} {x y : Operand} {a b v : Value} (hx : ev f x = some a) (hy : ev f y = some b)
    (h : ∀ w, ((do eqGuard o t x y a b; binOp o t a b) : Sem Value).run P w = .ok v w) : PO P n w0 f L ⟨d, .binOp o t x y u, ty, pos, af, g⟩ v := fun ac w fr _ => by
  simp only [execOp, fr.ev hx, fr.ev hy]
  have hh : Sem.run P ((do eqGuard o t x y a b; binOp o t a b) >>= fun z => pure (Next.value z)) w = .ok (.value v) w := by rw [Sem.run_bind, h w]; rfl
  exact hh
section
variable {t u : TypeId} {x y : Operand} {k yk : IntKind} {a b : Int}
theorem PO.add (hx : ev f x = some (.int k a)) (hy : ev f y = some (.int k b)) : PO P n w0 f L ⟨d, .binOp .add t x y u, ty, pos, af, g⟩ (.int k (k.wrap (a + b))) :=
  PO.bin hx hy fun w => by simp [eqGuard_at_int, binOp_add, Op.intArith]
theorem PO.sub (hx : ev f x = some (.int k a)) (hy : ev f y = some (.int k b)) : PO P n w0 f L ⟨d, .binOp .sub t x y u, ty, pos, af, g⟩ (.int k (k.wrap (a - b))) :=
  PO.bin hx hy fun w => by simp [eqGuard_at_int, binOp_sub, Op.intArith]
theorem PO.mul (hx : ev f x = some (.int k a)) (hy : ev f y = some (.int k b)) : PO P n w0 f L ⟨d, .binOp .mul t x y u, ty, pos, af, g⟩ (.int k (k.wrap (a * b))) :=
  PO.bin hx hy fun w => by simp [eqGuard_at_int, binOp_mul, Op.intArith]
theorem PO.quo (hx : ev f x = some (.int k a)) (hy : ev f y = some (.int k b)) (hb : b ≠ 0) : PO P n w0 f L ⟨d, .binOp .quo t x y u, ty, pos, af, g⟩ (.int k (k.wrap (a.tdiv b))) :=
  PO.bin hx hy fun w => by simp [eqGuard_at_int, binOp_quo, Op.intDiv, hb]
theorem PO.rem (hx : ev f x = some (.int k a)) (hy : ev f y = some (.int k b)) (hb : b ≠ 0) : PO P n w0 f L ⟨d, .binOp .rem t x y u, ty, pos, af, g⟩ (.int k (a.tmod b)) :=
  PO.bin hx hy fun w => by simp [eqGuard_at_int, binOp_rem, Op.intDiv, hb]
theorem PO.and (hx : ev f x = some (.int k a)) (hy : ev f y = some (.int k b)) : PO P n w0 f L ⟨d, .binOp .and t x y u, ty, pos, af, g⟩ (.int k (bits .and k a b)) :=
  PO.bin hx hy fun w => by simp [eqGuard_at_int, binOp_and, intBits_and]
theorem PO.or (hx : ev f x = some (.int k a)) (hy : ev f y = some (.int k b)) : PO P n w0 f L ⟨d, .binOp .or t x y u, ty, pos, af, g⟩ (.int k (bits .or k a b)) :=
  PO.bin hx hy fun w => by simp [eqGuard_at_int, binOp_or, intBits_or]
theorem PO.xor (hx : ev f x = some (.int k a)) (hy : ev f y = some (.int k b)) : PO P n w0 f L ⟨d, .binOp .xor t x y u, ty, pos, af, g⟩ (.int k (bits .xor k a b)) :=
  PO.bin hx hy fun w => by simp [eqGuard_at_int, binOp_xor, intBits_xor]
theorem PO.eql (hx : ev f x = some (.int k a)) (hy : ev f y = some (.int k b)) : PO P n w0 f L ⟨d, .binOp .eql t x y u, ty, pos, af, g⟩ (.bool (a == b)) :=
  PO.bin hx hy fun w => by simp [eqGuard_at_int, binOp_eql]
theorem PO.neq (hx : ev f x = some (.int k a)) (hy : ev f y = some (.int k b)) : PO P n w0 f L ⟨d, .binOp .neq t x y u, ty, pos, af, g⟩ (.bool (a != b)) :=
  PO.bin hx hy fun w => by simp [eqGuard_at_int, binOp_neq]
theorem PO.lss (hx : ev f x = some (.int k a)) (hy : ev f y = some (.int k b)) : PO P n w0 f L ⟨d, .binOp .lss t x y u, ty, pos, af, g⟩ (.bool (decide (a < b))) :=
  PO.bin hx hy fun w => by simp [eqGuard_at_int, binOp_lss]
theorem PO.leq (hx : ev f x = some (.int k a)) (hy : ev f y = some (.int k b)) : PO P n w0 f L ⟨d, .binOp .leq t x y u, ty, pos, af, g⟩ (.bool (decide (a ≤ b))) :=
  PO.bin hx hy fun w => by simp [eqGuard_at_int, binOp_leq]
theorem PO.gtr (hx : ev f x = some (.int k a)) (hy : ev f y = some (.int k b)) : PO P n w0 f L ⟨d, .binOp .gtr t x y u, ty, pos, af, g⟩ (.bool (decide (b < a))) :=
  PO.bin hx hy fun w => by simp [eqGuard_at_int, binOp_gtr]
theorem PO.geq (hx : ev f x = some (.int k a)) (hy : ev f y = some (.int k b)) : PO P n w0 f L ⟨d, .binOp .geq t x y u, ty, pos, af, g⟩ (.bool (decide (b ≤ a))) :=
  PO.bin hx hy fun w => by simp [eqGuard_at_int, binOp_geq]
end
def shlI (k : IntKind) (x y : Int) : Int := k.wrap (x * 2 ^ (min y.toNat k.bits))
def shrI (k : IntKind) (x y : Int) : Int := x.fdiv (2 ^ (min y.toNat k.bits))
section
variable {t u : TypeId} {x y : Operand} {k yk : IntKind} {a b : Int}
theorem PO.shl (hx : ev f x = some (.int k a)) (hy : ev f y = some (.int yk b)) (hb : 0 ≤ b) : PO P n w0 f L ⟨d, .binOp .shl t x y u, ty, pos, af, g⟩ (.int k (shlI k a b)) :=
  PO.bin hx hy fun w => by simp [eqGuard_at_int, binOp_shl, Op.shift, Int.not_lt.2 hb, shlI]
theorem PO.shr (hx : ev f x = some (.int k a)) (hy : ev f y = some (.int yk b)) (hb : 0 ≤ b) : PO P n w0 f L ⟨d, .binOp .shr t x y u, ty, pos, af, g⟩ (.int k (shrI k a b)) :=
  PO.bin hx hy fun w => by simp [eqGuard_at_int, binOp_shr, Op.shift, Int.not_lt.2 hb, shrI]
end
section
variable {t u : TypeId} {x y : Operand} {a b : ByteArray}
theorem PO.seql (hx : ev f x = some (.string a)) (hy : ev f y = some (.string b)) : PO P n w0 f L ⟨d, .binOp .eql t x y u, ty, pos, af, g⟩ (.bool (a.toList == b.toList)) :=
  PO.bin hx hy fun w => by rw [eqGuard_at_string]; rfl
theorem PO.sneq (hx : ev f x = some (.string a)) (hy : ev f y = some (.string b)) : PO P n w0 f L ⟨d, .binOp .neq t x y u, ty, pos, af, g⟩ (.bool (!(a.toList == b.toList))) :=
  PO.bin hx hy fun w => by rw [eqGuard_at_string]; rfl
theorem PO.sadd (hx : ev f x = some (.string a)) (hy : ev f y = some (.string b)) (h : a.size + b.size ≤ 9223372036854775807) :
    PO P n w0 f L ⟨d, .binOp .add t x y u, ty, pos, af, g⟩ (.string (a ++ b)) :=
  PO.bin hx hy fun w => by
    have : ¬ IntKind.i64.max < (((a.size + b.size : Nat)) : Int) := by
      have : IntKind.i64.max = 9223372036854775807 := by decide
      omega
    have e : Op.stringOp .add a b = pure (.string (a ++ b)) := by unfold Op.stringOp; exact if_neg this
    rw [eqGuard_at_string]
    show Sem.run P (Op.stringOp .add a b) w = _
    rw [e]; rfl
end
theorem PO.beql {t u : TypeId} {x y : Operand} {a b : Bool} (hx : ev f x = some (.bool a)) (hy : ev f y = some (.bool b)) (hu : ∀ w, (underlying t).run P w = .ok .bool w) :
    PO P n w0 f L ⟨d, .binOp .eql t x y u, ty, pos, af, g⟩ (.bool (a == b)) :=
  PO.bin hx hy fun w => by
    have e : ∀ w, Sem.run P (Op.equal t (.bool a) (.bool b)) w = .ok (a == b) w := fun w => by
      simp only [Op.equal, Op.maxDepth]; unfold Op.equalIn; simp [hu]
    rw [eqGuard_at_bool]
    show Sem.run P (Op.equal t (.bool a) (.bool b) >>= fun z => pure (Value.bool z)) w = _
    rw [Sem.run_bind, e]; rfl
theorem PO.bneq {t u : TypeId} {x y : Operand} {a b : Bool} (hx : ev f x = some (.bool a)) (hy : ev f y = some (.bool b)) (hu : ∀ w, (underlying t).run P w = .ok .bool w) :
    PO P n w0 f L ⟨d, .binOp .neq t x y u, ty, pos, af, g⟩ (.bool (!(a == b))) :=
  PO.bin hx hy fun w => by
    have e : ∀ w, Sem.run P (Op.equal t (.bool a) (.bool b)) w = .ok (a == b) w := fun w => by
      simp only [Op.equal, Op.maxDepth]; unfold Op.equalIn; simp [hu]
    rw [eqGuard_at_bool]
    show Sem.run P (Op.equal t (.bool a) (.bool b) >>= fun z => pure (Value.bool (!z))) w = _
    rw [Sem.run_bind, e]; rfl
theorem PO.not {t : TypeId} {x : Operand} {b : Bool} (hx : ev f x = some (.bool b)) : PO P n w0 f L ⟨d, .unOp .not t x, ty, pos, af, g⟩ (.bool (!b)) := fun a w fr _ => by
  simp [execOp, fr.ev hx, Op.unary]
theorem PO.neg {t : TypeId} {x : Operand} {k : IntKind} {b : Int} (hx : ev f x = some (.int k b)) : PO P n w0 f L ⟨d, .unOp .neg t x, ty, pos, af, g⟩ (.int k (k.wrap (0 - b))) := fun a w fr _ => by
  simp [execOp, fr.ev hx, Op.unary, Op.intArith]
theorem PO.com {t : TypeId} {x : Operand} {k : IntKind} {b : Int} (hx : ev f x = some (.int k b)) :
    PO P n w0 f L ⟨d, .unOp .xor t x, ty, pos, af, g⟩ (.int k (bits .xor k (if k.signed then -1 else k.max) b)) := fun a w fr _ => by
  simp only [execOp, fr.ev hx, Op.unary, intBits_xor]; rfl
theorem PO.conv {s t : TypeId} {x : Operand} {k k' : IntKind} {b : Int} {ds : TypeDesc} (hx : ev f x = some (.int k b)) (hs : ∀ w, (underlying s).run P w = .ok ds w) (ht : ∀ w, (underlying t).run P w = .ok (.int k') w) :
    PO P n w0 f L ⟨d, .convert s t x, ty, pos, af, g⟩ (.int k' (k'.wrap b)) := fun a w fr _ => by
  simp [execOp, fr.ev hx, convert, hs, ht, Conv.intToInt]
theorem PO.convS {s t : TypeId} {x : Operand} {b : ByteArray} {ds : TypeDesc} (hx : ev f x = some (.string b)) (hs : ∀ w, (underlying s).run P w = .ok ds w) (ht : ∀ w, (underlying t).run P w = .ok .string w) :
    PO P n w0 f L ⟨d, .convert s t x, ty, pos, af, g⟩ (.string b) := fun a w fr _ => by
  simp [execOp, fr.ev hx, convert, hs, ht]
theorem PO.extract {x : Operand} {i : Nat} {vs : Array Value} {v : Value} (hx : ev f x = some (.tuple vs)) (hi : lnth vs.toList i = some v) : PO P n w0 f L ⟨d, .extract x i, ty, pos, af, g⟩ v := fun a w fr _ => by
  have hi : vs[i]? = some v := by rw [lnth_eq] at hi; simpa using hi
  simp [execOp, fr.ev hx, Instr.extract, hi]
theorem PO.nilCheck {x : Operand} {p : Addr} (hx : ev f x = some (.pointer (some p))) : PO P n w0 f L ⟨d, .nilCheck x, ty, pos, af, g⟩ (.pointer (some p)) := fun a w fr _ => by
  simp only [execOp, fr.ev hx]; rfl
theorem PO.fieldAddr {t : TypeId} {x : Operand} {i k : Nat} {p q : Addr} {fs : Array Field} {fd : Field} (hx : ev f x = some (.pointer (some p))) (hu : ∀ w, (underlying t).run P w = .ok (.struct fs) w)
    (hi : lnth fs.toList i = some fd) (hz : ∀ w, (sizeOf fd.type).run P w = .ok (k + 1) w) (hq : p.add fd.offset = q) :
    PO P n w0 f L ⟨d, .fieldAddr t x i, ty, pos, af, g⟩ (.pointer (some q)) := fun a w fr _ => by
  have hi : fs[i]? = some fd := by rw [lnth_eq] at hi; simpa using hi
  subst hq; simp [execOp, fr.ev hx, Instr.fieldAt, hu, hi, Instr.sureAddr, fieldPlace, hz]
theorem PO.field {t : TypeId} {x : Operand} {i : Nat} {cs : Array Value} {v : Value} {fs : Array Field} {fd : Field} (hx : ev f x = some (.agg cs)) (hu : ∀ w, (underlying t).run P w = .ok (.struct fs) w)
    (hi : lnth fs.toList i = some fd) (hz : ∀ w, (isAgg fd.type).run P w = .ok false w) (hv : lnth cs.toList fd.offset = some v) :
    PO P n w0 f L ⟨d, .field t x i, ty, pos, af, g⟩ v := fun a w fr _ => by
  have hi : fs[i]? = some fd := by rw [lnth_eq] at hi; simpa using hi
  have hv : cs[fd.offset]? = some v := by rw [lnth_eq] at hv; simpa using hv
  simp [execOp, fr.ev hx, Instr.field, hu, hi, part, hz, hv, asAgg]
theorem cell_of {b : Nat} {cs : Array Value} {T : TypeId} {fz : Nat × Nat} {i : Nat} {w : World} (s : Sat w0 L w) (hl : L[i]? = some (pt b (.cells cs T fz))) (o : Nat) :
    w.cell? ⟨b, o, none⟩ = cs[o]? := by
  have := s.get hl
  simp [World.cell?, this]
theorem PO.load {t : TypeId} {x : Operand} {b o : Nat} {cs : Array Value} {T : TypeId} {fz : Nat × Nat} {v : Value} (i : Nat) (hx : ev f x = some (.pointer (some ⟨b, o, none⟩)))
    (ha : ∀ w, (isAgg t).run P w = .ok false w) (hl : lnth L i = some (pt b (.cells cs T fz))) (hv : lnth cs.toList o = some v) : PO P n w0 f L ⟨d, .load t x, ty, pos, af, g⟩ v := fun a w fr s => by
  have hl : L[i]? = some (pt b (.cells cs T fz)) := by rw [← lnth_eq]; exact hl
  have hv : cs[o]? = some v := by rw [lnth_eq] at hv; simpa using hv
  have hc : w.cell? ⟨b, o, none⟩ = some v := by rw [cell_of s hl, hv]
  simp [execOp, fr.ev hx, Instr.loadAt, Instr.sureAddr, loadVar, ha, Go.load, Sem.run, hc]
theorem run_loadCellsFrom {w : World} {b : Nat} {cs : Array Value} (hc : ∀ o, w.cell? ⟨b, o, none⟩ = cs[o]?) : ∀ (k i o : Nat) (acc : Array Value), o + i + k ≤ cs.size →
    (loadCellsFrom ⟨b, o, none⟩ i k acc).run P w = .ok (acc ++ cs.extract (o + i) (o + i + k)) w := by
  intro k
  induction k with
  | zero => intro i o acc h; simp [loadCellsFrom, Sem.run, pure]; omega
  | succ k ih =>
    intro i o acc h
    have hlt : o + i < cs.size := by omega
    have hadd : (⟨b, o, none⟩ : Addr).add i = ⟨b, o + i, none⟩ := by
      unfold Addr.add; split
      · rename_i e; subst e; rfl
      · rfl
    have h1 : w.cell? ((⟨b, o, none⟩ : Addr).add i) = some cs[o + i] := by rw [hadd, hc]; simp [hlt]
    have h2 := ih (i + 1) o (acc.push cs[o + i]) (by omega)
    unfold loadCellsFrom
    simp only [Go.load, Bind.bind, Sem.bind, Sem.run, h1]
    rw [show (Sem.run P (loadCellsFrom ⟨b, o, none⟩ (i + 1) k (acc.push cs[o + i])) w) = _ from h2]
    congr 1
    apply Array.ext'
    simp only [Array.toList_append, Array.toList_push, Array.toList_extract, List.append_assoc, List.singleton_append]
    congr 1
    rw [show o + (i + 1) = o + i + 1 from by omega]
    simp only [List.extract_eq_take_drop]
    rw [show o + i + 1 + k - (o + i + 1) = k from by omega, show o + i + (k + 1) - (o + i) = k + 1 from by omega]
    have : (cs.toList.drop (o + i)) = cs[o + i] :: cs.toList.drop (o + i + 1) := by rw [List.drop_eq_getElem_cons (by simpa using hlt)]; rfl
    rw [this]; rfl
theorem PO.loadAgg {t : TypeId} {x : Operand} {b o k : Nat} {cs vs : Array Value} {T : TypeId} {fz : Nat × Nat} (i : Nat) (hx : ev f x = some (.pointer (some ⟨b, o, none⟩)))
    (ha : ∀ w, (isAgg t).run P w = .ok true w) (hz : ∀ w, (sizeOf t).run P w = .ok k w) (hl : lnth L i = some (pt b (.cells cs T fz))) (hk : Nat.ble (o + k) cs.size = true) (hv : ((cs.toList.drop o).take k).toArray = vs) :
    PO P n w0 f L ⟨d, .load t x, ty, pos, af, g⟩ (.agg vs) := fun a w fr s => by
  have hl : L[i]? = some (pt b (.cells cs T fz)) := by rw [← lnth_eq]; exact hl
  have hv : cs.extract o (o + k) = vs := by rw [← hv]; apply Array.ext'; simp [List.extract_eq_take_drop]
  have h := run_loadCellsFrom (P := P) (fun o => cell_of s hl o) k 0 o #[] (by have := Nat.le_of_ble_eq_true hk; omega)
  simp only [Nat.add_zero, Array.empty_append, hv] at h
  simp [execOp, fr.ev hx, Instr.loadAt, Instr.sureAddr, loadVar, ha, hz, loadCells, h]
end
end Go.Proofs.YtlnionilhagenaaGreatDoor
