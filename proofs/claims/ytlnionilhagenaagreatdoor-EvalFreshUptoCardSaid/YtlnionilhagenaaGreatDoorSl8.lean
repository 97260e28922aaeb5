import Derived.Test.YtlnionilhagenaaGreatDoorSl7
/-! # Calls of function values, tables of cells, results that are new -/
namespace Go.Proofs.YtlnionilhagenaaGreatDoor
open Go.RowKit
set_option linter.all false
section
variable {P : Program} {n : Fs} {w0 : Ctx} {N : Cn} {X : Nat → Cn} {R : Cn} {f : Frm} {L : List HP} {D : Option (List (Option Nat))} {rest : List Oper}
  {d : Option Nat} {ty : TypeId} {pos : String} {af : Array Edge} {g : Option (Nat × Bool)}
theorem PO.makeFunc {fn : Fn} {fi ca : Array Operand} {us vs : List Value} (hf : evs f fi.toList = some us) (hc : evs f ca.toList = some vs) :
    PO P n w0 f L ⟨d, .makeFunc fn fi ca, ty, pos, af, g⟩ (.func fn us.toArray vs.toArray) := fun a w fr _ => by
  have h1 : fi.map a.eval = us.toArray := by apply Array.ext'; rw [Array.toList_map]; exact fr.evs hf
  have h2 : ca.map a.eval = vs.toArray := by apply Array.ext'; rw [Array.toList_map]; exact fr.evs hc
  simp only [execOp, Instr.makeFunc, h1, h2]; rfl
/-- A call of a function's value over two parts of the heap, of which it turns the first. -/
theorem EO.call2V {h : FuncId} {y : Operand} {xs : Array Operand} {tys : Array TypeId} {fi ca : Array Value} {vs us : List Value} {v : Value} {A B C : HP} (i j : Nat) (M : List HP) (hc : ∀ args w, (callFunc h args).run P w = .ok (.enter h args) w)
    (hy : ev f y = some (.func (.func h) fi ca)) (hx : evs f xs.toList = some vs) (hu : fi.toList ++ vs ++ ca.toList = us) (hl : nth L i = some A) (hj : nth (delN L i) j = some C) (ht : TriV P h us [A, C] v [B, C]) (hM : setN L i B = M) :
    EO P n w0 f L ⟨d, .call ⟨.value y, xs, tys⟩, ty, pos, af, g⟩ fun v' L' => v' = v ∧ L' = M :=
  fun Q hE K a w fr s hK => EO.call (A := [A, C]) (sep (delN (delN L i) j)) (fun a w fr _ => run_callV hc hy hx hu a w fr) ht (by rw [sep_nth hl]; show _ = star A _; congr 1; rw [sep_nth hj]; show _ = star C _; congr 1; exact (sep_one _).symm) Q hE K a w fr s
    (fun u L' w' ⟨E, ⟨e1, e2⟩, e4⟩ s => by
      subst e1; subst e2; subst e4
      exact hK _ _ _ ⟨rfl, rfl⟩ (s.eq (by rw [← hM, sep_setN B hl, sep_nth hj]; show star B (star C (sep [sep _])) = _; rw [sep_one])))
theorem Holds.trans {f g : Frm} (h : Holds f g) : ∀ {q : Frm}, Holds g q → Holds f q
  | [], _ => trivial
  | _ :: _, ⟨a, b⟩ => ⟨h.sub _ _ a, Holds.trans h b⟩
/-- Arms without effects: one frame behind them. -/
theorem WP.merge {c : Code} (g : Frm) (M : List HP) (h : WP P n w0 c (fun f L => Holds f g ∧ L = M) X R f L) (k : ∀ f, Holds f g → N f M) : WP P n w0 c N X R f L :=
  h.mono (fun f L ⟨a, e⟩ => by subst e; exact k f a) (fun _ _ _ h => h) (fun _ _ h => h)
/-- Ways that go on alike. -/
theorem WP.join {c c2 : Code} {N : Cn} (J : Frm → List HP → Prop) (h : WP P n w0 c (fun f L => ∃ M, J f M ∧ ∀ w, Sat w0 L w → Sat w0 M w) X R f L) (k : ∀ f M, J f M → WP P n w0 c2 N X R f M) :
    WP P n w0 c (fun f L => WP P n w0 c2 N X R f L) X R f L :=
  h.mono (fun f _ ⟨M, hJ, hs⟩ => (k f M hJ).heap _ hs) (fun _ _ _ h => h) (fun _ _ h => h)
/-- A table: one cell each. -/
def arrAt {α : Type} (T : TypeId) (c : α → Value) (b : Nat) (l : List α) : HP := pt b (.cells (l.map c).toArray T (0, 0))
theorem PO.idxA {t e : TypeId} {m : Nat} {x y : Operand} {b : Nat} {kd : IntKind} {q : Int} (hx : ev f x = some (.pointer (some ⟨b, 0, none⟩))) (hy : ev f y = some (.int kd q))
    (hu : ∀ w, (underlying t).run P w = .ok (.array m e) w) (hz : ∀ w, (sizeOf e).run P w = .ok 1 w) (h0 : 0 ≤ q) (h1 : q < m) :
    PO P n w0 f L ⟨d, .indexAddr t x y, ty, pos, af, g⟩ (.pointer (some ⟨b, q.toNat, none⟩)) := fun a w fr s => by
  have hadd : (⟨b, 0, none⟩ : Addr).add q.toNat = ⟨b, q.toNat, none⟩ := by rw [addr_add']; simp
  have h2 : q.toNat < m := by omega
  simp [execOp, fr.ev hx, fr.ev hy, Instr.indexAt, asIntOf, hu, h0, h1, hz, hadd, Instr.sureAddr]
theorem PO.idxK {t e : TypeId} {m i k : Nat} {x y : Operand} {b : Nat} {kd : IntKind} {q : Int} (hx : ev f x = some (.pointer (some ⟨b, 0, none⟩))) (hy : ev f y = some (.int kd q))
    (hu : ∀ w, (underlying t).run P w = .ok (.array m e) w) (hz : ∀ w, (sizeOf e).run P w = .ok k w) (h0 : q = (i : Int)) (h1 : Nat.blt i m = true) :
    PO P n w0 f L ⟨d, .indexAddr t x y, ty, pos, af, g⟩ (.pointer (some ⟨b, i * k, none⟩)) := fun a w fr s => by
  subst h0
  have hadd : (⟨b, 0, none⟩ : Addr).add (i * k) = ⟨b, i * k, none⟩ := by rw [addr_add']; simp
  have h2 : i < m := by simpa [Nat.blt_eq] using h1
  simp [execOp, fr.ev hx, fr.ev hy, Instr.indexAt, asIntOf, hu, h2, hz, hadd, Instr.sureAddr]
theorem PO.loadA {α : Type} {c : α → Value} {t : TypeId} {x : Operand} {b o : Nat} {T : TypeId} {l : List α} {a : α} (i : Nat) (hx : ev f x = some (.pointer (some ⟨b, o, none⟩)))
    (ha : ∀ w, (isAgg t).run P w = .ok false w) (hl : lnth L i = some (arrAt T c b l)) (hv : l[o]? = some a) : PO P n w0 f L ⟨d, .load t x, ty, pos, af, g⟩ (c a) :=
  PO.load i hx ha hl (by rw [lnth_eq]; simp [hv])
end
end Go.Proofs.YtlnionilhagenaaGreatDoor
