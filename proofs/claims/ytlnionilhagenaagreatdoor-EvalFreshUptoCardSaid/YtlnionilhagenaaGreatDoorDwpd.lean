import Derived.Test.YtlnionilhagenaaGreatDoorRdr
import Derived.Test.YtlnionilhagenaaGreatDoorOrder
import Derived.Recover
/-! # A function that defers: the reading of a text -/
namespace Go.Proofs.YtlnionilhagenaaGreatDoor
open Go.RowKit
set_option linter.all false
section
variable {P : Program} {n : Fs} {w0 : Ctx} {N : Cn} {X : Nat → Cn} {R : Cn} {f : Frm} {L : List HP} {γ : Type} {D : γ → Fs} {W : γ → Ctx} {R' : γ → Cn}
def WPD (P : Program) (n : Fs) (w0 : Ctx) (D : γ → Fs) (W : γ → Ctx) (R' : γ → Cn) (c : Code) (f : Frm) (L : List HP) : Prop :=
  ∀ Q : Exit → Act → World → Prop, Pan n w0 Q → (∀ g, Pan (D g) (W g) Q) → (∀ g a w f L, R' g f L → Fr (D g) f a → Sat (W g) L w → Q .ret a w) → ∀ a w, Fr n f a → Sat w0 L w → c.wp P Q a w
theorem WPD.seq {x y : Code} (h : WP P n w0 x (fun f L => WPD P n w0 D W R' y f L) noX noN f L) : WPD P n w0 D W R' (.seq x y) f L :=
  fun Q hP hD hR a w fr s => wp_seq (h (Exit.then (y.wp P Q) Q) hP (fun a w f L k fr s => k Q hP hD hR a w fr s) (fun _ _ _ _ _ x => x.elim) (fun _ _ _ _ x => x.elim) a w fr s)
theorem WPD.keep {c : Code} (g : Frm) (h : Holds f g) (k : WPD P n w0 D W R' c g L) : WPD P n w0 D W R' c f L :=
  fun Q hP hD hR a w fr s => k Q hP hD hR a w (fr.sub h.sub) s
theorem WPD.join {c c2 : Code} (J : Frm → List HP → Prop) (h : WP P n w0 c (fun f L => ∃ M, J f M ∧ ∀ w, Sat w0 L w → Sat w0 M w) X R f L) (k : ∀ f M, J f M → WPD P n w0 D W R' c2 f M) :
    WP P n w0 c (fun f L => WPD P n w0 D W R' c2 f L) X R f L :=
  h.mono (fun f _ ⟨M, hJ, hs⟩ => fun Q hP hD hR a w fr s => k f M hJ Q hP hD hR a w fr (hs w s)) (fun _ _ _ h => h) (fun _ _ h => h)
theorem run_defer {f : Frm} {a : Act} {t : Nat} {h : FuncId} {cap : Array Value} {d : Option Nat} {ty : TypeId} {pos : String} {af : Array Edge} {g : Option (Nat × Bool)} (fr : Fr n f a) (hv : look f t = some (.func (.func h) #[] cap)) (w : World) :
    (execOp a.eval ⟨d, .defer ⟨.value (.tmp t), #[], #[]⟩, ty, pos, af, g⟩).run P w = .ok (.defer ⟨.fn (.func h) cap, #[]⟩) w := by
  have := fr.ev (x := .tmp t) hv
  simp [execOp, resolve, this, Deferred.ofValue]
theorem WPD.defer {i t : Nat} {h : FuncId} {cap : Array Value} {op : Op} {ty ty2 : TypeId} {pos pos2 : String} {af af2 : Array Edge} {y : Code} (g : γ) (h1 : PO P n w0 f L ⟨some t, op, ty, pos, af, none⟩ (.func (.func h) #[] cap)) (ht : t < n.n)
    (hD : D g = ⟨n.n, ⟨.fn (.func h) cap, #[]⟩ :: n.ds⟩) (hW : (W g).w0 = w0.w0) (k : WP P (D g) (W g) y noN noX (R' g) ((t, .func (.func h) #[] cap) :: f) L) :
    WPD P n w0 D W R' (.seq (.region i #[⟨some t, op, ty, pos, af, none⟩, ⟨none, .defer ⟨.value (.tmp t), #[], #[]⟩, ty2, pos2, af2, none⟩] false) y) f L := by
  intro Q hP hDp hR a w fr s
  refine wp_seq (wp_region_lit (l := [_, _]) ?_)
  have e1 := h1 a w fr s
  have fr1 := fr.put ht (.func (.func h) #[] cap)
  have e2 := run_defer (P := P) (t := t) (h := h) (cap := cap) (d := none) (ty := ty2) (pos := pos2) (af := af2) (g := none) fr1 (by simp [look, Nat.beq_refl]) w
  have fin : y.wp P Q ({ (a.put (some t) (.func (.func h) #[] cap)) with defers := ⟨.fn (.func h) cap, #[]⟩ :: (a.put (some t) (.func (.func h) #[] cap)).defers }.put none undef) w := by
    refine k Q (hDp g) (fun _ _ _ _ x => x.elim) (fun _ _ _ _ _ x => x.elim) (hR g) _ w ?_ (by rw [hW]; exact s)
    rw [hD]
    exact ⟨by show _ :: (a.put (some t) _).defers = _; rw [fr1.defers], fr1.size, fr1.slot⟩
  unfold wpList
  rw [if_pos (by rfl)]
  left
  unfold Oper.wp
  rw [e1, Oper.upon_value]
  unfold wpList
  rw [if_pos (by rfl)]
  left
  unfold Oper.wp
  rw [e2, Oper.upon_defer]
  exact fin
theorem wp_by {c : Code} {Q : Exit → Act → World → Prop} {a : Act} {w : World} (f : Frm) (L : List HP) (N R : Cn) (hE : Pan n w0 Q) (hn : ∀ a w f L, N f L → Fr n f a → Sat w0 L w → Q .normal a w) (hr : ∀ a w f L, R f L → Fr n f a → Sat w0 L w → Q .ret a w)
    (fr : Fr n f a) (s : Sat w0 L w) (h : WP P n w0 c N noX R f L) : c.wp P Q a w := h Q hE hn (fun _ _ _ _ _ x => x.elim) hr a w fr s
theorem Fr.own {a : Act} (h : Fr n f a) (i : Nat) : Fr n ((i, a.tmps.getD i undef) :: f) a := by
  refine ⟨h.defers, h.size, fun j v e => ?_⟩
  simp only [look] at e
  cases q : Nat.beq i j with
  | true => rw [q] at e; rw [← Nat.eq_of_beq_eq_true q]; exact Option.some.inj e
  | false => rw [q] at e; exact h.slot j v e
/-- A typed assertion that holds. -/
theorem PO.assert2 {t u : TypeId} {x : Operand} {v : Value} {d : Option Nat} {ty : TypeId} {pos : String} {af : Array Edge} {g : Option (Nat × Bool)} {td : TypeDesc} (hx : ev f x = some (.iface t v)) (hu : ∀ w, (underlying t).run P w = .ok td w) (hd : isIfaceD td = false) :
    PO P n w0 f L ⟨d, .typeAssert x u t true, ty, pos, af, g⟩ (.tuple #[v, .bool true]) := fun a w fr _ => by
  have h : (execOp a.eval ⟨d, .typeAssert x u t true, ty, pos, af, g⟩).run P w = .ok (.value (.tuple #[v, .bool true])) w := by
    have h1 : (Instr.typeAssert (.iface t v) u t true).run P w = .ok (.tuple #[v, .bool true]) w := by
      unfold Instr.typeAssert
      simp only [Sem.run_bind, hu, Result.andThen]
      cases td <;> first | (simp [Sem.run_pure]; done) | cases hd
    simp only [execOp, fr.ev hx, Sem.run_bind, h1, Result.andThen]; rfl
  exact h
end
/-- A variable of one cell. -/
@[reducible] def ptL (T : TypeId) (p : Nat) (v : Value) : HP := pt p (.cells #[v] T (0, 0))
def JF [GlobFix] (w0 : World) (F : HP) (p4 p5 p7 : Nat) (q : Int) : Cn := fun _ L => ∃ R, ∀ w, Sat w0 L w → Sat w0 (gl :: F :: ptL 23 p4 (.pointer none) :: ptL 24 p5 (.slice none 0 0) :: ptL 28 p7 (.int .i64 q) :: R) w
end Go.Proofs.YtlnionilhagenaaGreatDoor
