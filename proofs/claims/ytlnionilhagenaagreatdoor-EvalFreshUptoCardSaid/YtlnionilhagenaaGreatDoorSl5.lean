/- Results, and the small laws that a printed walk uses. -/
import Derived.Test.YtlnionilhagenaaGreatDoorSl4
namespace Go.Proofs.YtlnionilhagenaaGreatDoor
open Go.RowKit
set_option linter.all false

def lt {α β : Type} (e : α) (k : α → β) : β := k e
theorem lt_elim {α β : Type} {e : α} {k : α → β} {r : β} (h : lt e k = r) : ∃ x, e = x ∧ k x = r := ⟨e, rfl, h⟩
theorem bind_elim {α β : Type} {e : Option α} {k : α → Option β} {r : β} (h : e.bind k = some r) : ∃ x, e = some x ∧ k x = some r := by
  cases e with
  | none => cases h
  | some x => exact ⟨x, rfl, h⟩
theorem cond_t {α : Type} {c : Bool} {x y r : α} (e : c = true) (h : cond c x y = r) : x = r := by subst e; exact h
theorem cond_f {α : Type} {c : Bool} {x y r : α} (e : c = false) (h : cond c x y = r) : y = r := by subst e; exact h
theorem check_elim {α : Type} {p : Prop} [Decidable p] {x : Option α} {r : α} (h : (if p then x else none) = some r) : p ∧ x = some r := by
  by_cases q : p
  · rw [if_pos q] at h; exact ⟨q, h⟩
  · rw [if_neg q] at h; cases h
/-- What is under a guard: told if it is done. -/
def opt {α : Type} (b : Bool) (e : Option α) (z : α) : Option α := bif b then e else some z
theorem opt_t {α : Type} {b : Bool} {e : Option α} {z x : α} (h : opt b e z = some x) (hb : b = true) : e = some x := by subst hb; exact h

section
variable {P : Program} {n : Fs} {w0 : Ctx} {f : Frm} {L : List HP}
def rvS (tmps : Array Value) : ResultVar → Sem Value
  | .tmp t => pure (tmps.getD t undef)
  | .cell b t => do loadVar t (← asAddr (tmps.getD b undef))
theorem results_rvS (fn : Func) (tmps : Array Value) : results fn tmps = (do let vs ← fn.results.mapM (rvS tmps); pure (if h : vs.size = 1 then vs[0] else .tuple vs)) := rfl
def RV (P : Program) (n : Fs) (w0 : Ctx) (rv : ResultVar) (f : Frm) (L : List HP) (v : Value) : Prop :=
  ∀ a w, Fr n f a → Sat w0 L w → (rvS a.tmps rv).run P w = .ok v w
theorem RV.tmp {t : Nat} {v : Value} (h : look f t = some v) : RV P n w0 (.tmp t) f L v := fun a w fr _ => by
  unfold rvS; dsimp only; rw [fr.slot t v h]; rfl
theorem RV.cell {t T b k : Nat} {cs vs : Array Value} {TT : TypeId} {fz : Nat × Nat} (i : Nat) (h : look f t = some (.pointer (some ⟨b, 0, none⟩))) (ha : ∀ w, (isAgg T).run P w = .ok true w) (hz : ∀ w, (sizeOf T).run P w = .ok k w)
    (hl : nth L i = some (pt b (.cells cs TT fz))) (hk : Nat.ble k cs.size = true) (hv : (cs.toList.take k).toArray = vs) : RV P n w0 (.cell t T) f L (.agg vs) := fun a w fr s => by
  have hv : cs.extract 0 k = vs := by rw [← hv]; apply Array.ext'; simp [List.extract_eq_take_drop]
  have hl' : L[i]? = some (pt b (.cells cs TT fz)) := by rw [← nth_eq]; exact hl
  have h2 := run_loadCellsFrom (P := P) (fun o => cell_of s hl' o) k 0 0 #[] (by have := Nat.le_of_ble_eq_true hk; omega)
  simp only [Nat.add_zero, Nat.zero_add, Array.empty_append, hv] at h2
  unfold rvS; dsimp only; rw [fr.slot t _ h]
  simp [asAddr, loadVar, ha, hz, loadCells, h2]
theorem RV.cell1 {t T b : Nat} {cs : Array Value} {v : Value} {TT : TypeId} {fz : Nat × Nat} (i : Nat) (h : look f t = some (.pointer (some ⟨b, 0, none⟩))) (ha : ∀ w, (isAgg T).run P w = .ok false w)
    (hl : nth L i = some (pt b (.cells cs TT fz))) (hv : lnth cs.toList 0 = some v) : RV P n w0 (.cell t T) f L v := fun a w fr s => by
  have hv : cs[0]? = some v := by rw [lnth_eq] at hv; simpa using hv
  have hl' : L[i]? = some (pt b (.cells cs TT fz)) := by rw [← nth_eq]; exact hl
  have hc : w.cell? ⟨b, 0, none⟩ = some v := by rw [cell_of s hl', hv]
  unfold rvS; dsimp only; rw [fr.slot t _ h]
  simp [asAddr, loadVar, ha, Go.load, Sem.run, hc]
theorem Res.one {r : ResultVar} {v : Value} (h : RV P n w0 r f L v) : Res P n w0 #[r] f L v := fun a w fn e fr s => by
  have h1 := h a w fr s
  rw [results_rvS, e]; simp [h1]
theorem Res.two {r s : ResultVar} {v u : Value} (h : RV P n w0 r f L v) (k : RV P n w0 s f L u) : Res P n w0 #[r, s] f L (.tuple #[v, u]) := fun a w fn e fr st => by
  have h1 := h a w fr st
  have h2 := k a w fr st
  rw [results_rvS, e]; simp [h1, h2]
theorem Res.three {r s t : ResultVar} {v u x : Value} (h : RV P n w0 r f L v) (k : RV P n w0 s f L u) (l : RV P n w0 t f L x) : Res P n w0 #[r, s, t] f L (.tuple #[v, u, x]) := fun a w fn e fr st => by
  have h1 := h a w fr st
  have h2 := k a w fr st
  have h3 := l a w fr st
  rw [results_rvS, e]; simp [h1, h2, h3]
theorem Res.four {r s t q : ResultVar} {v u x y : Value} (h : RV P n w0 r f L v) (k : RV P n w0 s f L u) (l : RV P n w0 t f L x) (m : RV P n w0 q f L y) : Res P n w0 #[r, s, t, q] f L (.tuple #[v, u, x, y]) := fun a w fn e fr st => by
  have h1 := h a w fr st
  have h2 := k a w fr st
  have h3 := l a w fr st
  have h4 := m a w fr st
  rw [results_rvS, e]; simp [h1, h2, h3, h4]
theorem Res.none : Res P n w0 #[] f L (.tuple #[]) := fun a w fn e fr st => by
  rw [results_rvS, e]; simp
theorem evx {x : Operand} {v : Value} (h : ev f x = some v) : ev f x = some v := h
section
variable {d : Option Tmp} {ty : TypeId} {pos : String} {af : Array Edge} {g : Option (Nat × Bool)}
theorem PO.pickA {c x y : Operand} {b e : Bool} (hc : ev f c = some (.bool b)) (hx : ev f x = some (gd b (.bool e))) (hy : ev f y = some (.bool false)) :
    PO P n w0 f L ⟨d, .pick c x y, ty, pos, af, g⟩ (.bool (b && e)) := fun a w fr _ => by
  simp only [execOp, fr.ev hc, fr.ev hx, fr.ev hy]; cases b <;> rfl
theorem PO.pickO {c x y : Operand} {b e : Bool} (hc : ev f c = some (.bool b)) (hx : ev f x = some (.bool true)) (hy : ev f y = some (gd (!b) (.bool e))) :
    PO P n w0 f L ⟨d, .pick c x y, ty, pos, af, g⟩ (.bool (b || e)) := fun a w fr _ => by
  simp only [execOp, fr.ev hc, fr.ev hx, fr.ev hy]; cases b <;> rfl
theorem PO.pickAG {x y z : Operand} {c b e : Bool} (he : c = true) (hc : ev f x = some (.bool b)) (hx : ev f y = some (gd (c && b) (.bool e))) (hy : ev f z = some (.bool false)) :
    PO P n w0 f L ⟨d, .pick x y z, ty, pos, af, g⟩ (.bool (b && e)) := by subst he; exact PO.pickA hc (by simpa using hx) hy
theorem PO.pickOG {x y z : Operand} {c b e : Bool} (he : c = true) (hc : ev f x = some (.bool b)) (hx : ev f y = some (.bool true)) (hy : ev f z = some (gd (c && !b) (.bool e))) :
    PO P n w0 f L ⟨d, .pick x y z, ty, pos, af, g⟩ (.bool (b || e)) := by subst he; exact PO.pickO hc hx (by simpa using hy)
theorem PO.lenS {x : Operand} {t : TypeId} {s : ByteArray} (hx : ev f x = some (.string s)) (hu : ∀ w, (underlying t).run P w = .ok .string w) :
    PO P n w0 f L ⟨d, .call ⟨.builtin .len, #[x], #[t]⟩, ty, pos, af, g⟩ (.int .i64 (s.size : Int)) := fun a w fr _ => by
  simp [execOp, resolve, fr.ev hx, invoke, builtin, Builtin.len_, hu, goInt]
def maxI (x y : Int) : Int := if y > x then y else x
def minI (x y : Int) : Int := if y < x then y else x
theorem PO.max2 {x y : Operand} {t u : TypeId} {k k' : IntKind} {a b : Int} (hx : ev f x = some (.int k a)) (hy : ev f y = some (.int k' b)) :
    PO P n w0 f L ⟨d, .call ⟨.builtin .max, #[x, y], #[t, u]⟩, ty, pos, af, g⟩ (.int k (maxI a b)) := fun ac w fr _ => by
  simp [execOp, resolve, fr.ev hx, fr.ev hy, invoke, builtin, Builtin.max_, Builtin.max2, maxI]
theorem PO.min2 {x y : Operand} {t u : TypeId} {k k' : IntKind} {a b : Int} (hx : ev f x = some (.int k a)) (hy : ev f y = some (.int k' b)) :
    PO P n w0 f L ⟨d, .call ⟨.builtin .min, #[x, y], #[t, u]⟩, ty, pos, af, g⟩ (.int k (minI a b)) := fun ac w fr _ => by
  simp [execOp, resolve, fr.ev hx, fr.ev hy, invoke, builtin, Builtin.min_, Builtin.min2, minI]
end
def comI (k : IntKind) (b : Int) : Int := bits .xor k (if k.signed then -1 else k.max) b
theorem wrap_nn_u64 (x : Int) : 0 ≤ IntKind.u64.wrap x := by
  unfold IntKind.wrap; simp [IntKind.signed]; exact Int.emod_nonneg _ (by decide)
theorem wrap_nn_u32 (x : Int) : 0 ≤ IntKind.u32.wrap x := by
  unfold IntKind.wrap; simp [IntKind.signed]; exact Int.emod_nonneg _ (by decide)
theorem wrap_nn_u8 (x : Int) : 0 ≤ IntKind.u8.wrap x := by
  unfold IntKind.wrap; simp [IntKind.signed]; exact Int.emod_nonneg _ (by decide)
theorem evs_nil : evs f [] = some [] := rfl
theorem evs_cons {x : Operand} {xs : List Operand} {v : Value} {vs : List Value} (h : ev f x = some v) (k : evs f xs = some vs) : evs f (x :: xs) = some (v :: vs) := by
  simp only [evs, h, k]
theorem SO.val {D : Option (List (Option Nat))} {o : Oper} {v : Value} (h : PO P n w0 f L o v) (hg : o.guard = none) : SO P n w0 D f L o (fun v' L' => v' = v ∧ L' = L) := SO.of hg h.eo
theorem SO.vo {D : Option (List (Option Nat))} {o : Oper} {v : Value} (h : VO P n w0 f L o v) (hg : o.guard = none) : SO P n w0 D f L o (fun v' L' => v' = v ∧ L' = L) := SO.of hg h
theorem EO.mono {o : Oper} {S S' : Value → List HP → Prop} (h : EO P n w0 f L o S) (k : ∀ v L', S v L' → S' v L') : EO P n w0 f L o S' :=
  fun Q hE K a w fr s hK => h Q hE K a w fr s (fun v L' w' q s' => hK v L' w' (k v L' q) s')
theorem SO.eff1 {D : Option (List (Option Nat))} {o : Oper} {v : Value} {M : List HP} (h : EO P n w0 f L o (fun v' L' => v' = v ∧ L' = M)) (hg : o.guard = none) :
    SO P n w0 D f L o (fun v' L' => (o.dst.isSome = true → v' = v) ∧ L' = M) := SO.of hg (h.mono fun _ _ ⟨e, e'⟩ => ⟨fun _ => e, e'⟩)
theorem SO.eff0 {D : Option (List (Option Nat))} {o : Oper} {v : Value} {M : List HP} (h : EO P n w0 f L o (fun _ L' => L' = M)) (hd : o.dst = none) (hg : o.guard = none) :
    SO P n w0 D f L o (fun v' L' => (o.dst.isSome = true → v' = v) ∧ L' = M) := SO.of hg (h.mono fun _ _ e => ⟨fun h => (by rw [hd] at h; cases h), e⟩)
section
variable {d : Option Tmp} {ty : TypeId} {pos : String} {af : Array Edge} {g : Option (Nat × Bool)} {t u : TypeId} {x y : Operand} {k : IntKind} {a b c : Int}
theorem PO.addK (hx : ev f x = some (.int k a)) (hy : ev f y = some (.int k b)) (h : k.wrap (a + b) = c) : PO P n w0 f L ⟨d, .binOp .add t x y u, ty, pos, af, g⟩ (.int k c) := h ▸ PO.add hx hy
theorem PO.subK (hx : ev f x = some (.int k a)) (hy : ev f y = some (.int k b)) (h : k.wrap (a - b) = c) : PO P n w0 f L ⟨d, .binOp .sub t x y u, ty, pos, af, g⟩ (.int k c) := h ▸ PO.sub hx hy
theorem PO.mulK (hx : ev f x = some (.int k a)) (hy : ev f y = some (.int k b)) (h : k.wrap (a * b) = c) : PO P n w0 f L ⟨d, .binOp .mul t x y u, ty, pos, af, g⟩ (.int k c) := h ▸ PO.mul hx hy
theorem PO.idxArr {e : TypeId} {m i : Nat} {cs : Array Value} {v : Value} {q : Int} {kd : IntKind} (hx : ev f x = some (.agg cs)) (hy : ev f y = some (.int kd q)) (hu : ∀ w, (underlying t).run P w = .ok (.array m e) w)
    (hz : ∀ w, (sizeOf e).run P w = .ok 1 w) (ha : ∀ w, (isAgg e).run P w = .ok false w) (hq : q = (i : Int)) (hm : Nat.blt i m = true) (hv : lnth cs.toList i = some v) :
    PO P n w0 f L ⟨d, .index t x y, ty, pos, af, g⟩ v := fun ac w fr _ => by
  subst hq
  have h1 : i < m := by simpa [Nat.blt_eq] using hm
  have hv : cs[i]? = some v := by rw [lnth_eq] at hv; simpa using hv
  simp [execOp, fr.ev hx, fr.ev hy, Instr.index, asIntOf, hu, hz, ha, part, h1, hv]
end
end
end Go.Proofs.YtlnionilhagenaaGreatDoor
