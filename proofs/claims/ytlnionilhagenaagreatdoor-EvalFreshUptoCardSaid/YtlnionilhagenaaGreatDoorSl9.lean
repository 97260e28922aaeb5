import Derived.Test.YtlnionilhagenaaGreatDoorSl8
import Derived.WalkSmall
/-! # Contracts of calls that may panic, or whose results are not all told -/
namespace Go.Proofs.YtlnionilhagenaaGreatDoor
open Go.RowKit
set_option linter.all false
theorem Sat.only {w0 w : World} {F : HP} : ∀ {L : List HP} (i : Nat), nth L i = some F → Sat w0 L w → Sat w0 [F] w := by
  intro L
  induction L with
  | nil => intro i h; cases i <;> cases h
  | cons A L ih =>
    intro i h s
    cases i with
    | zero =>
      cases h
      have : Sat w0 ([F] ++ L) w := s
      exact Sat.pre (w0 := ⟨w0, fun _ _ _ => False⟩) this
    | succ i => exact ih i h s.cut
/-- Parts of a list, by their places; the places are left empty. -/
def takes : List Nat → List HP → Option (List HP × List HP)
  | [], L => some ([], L)
  | i :: is, L => match nth L i with
    | none => none
    | some A => match takes is (setN L i emp) with
      | none => none
      | some (B, R) => some (A :: B, R)
theorem takes_sep : ∀ {is : List Nat} {L B R : List HP}, takes is L = some (B, R) → sep L = sep (B ++ R) := by
  intro is
  induction is with
  | nil => intro L B R h; cases h; rfl
  | cons i is ih =>
    intro L B R h
    simp only [takes] at h
    cases h1 : nth L i with
    | none => rw [h1] at h; cases h
    | some A =>
      rw [h1] at h
      cases h2 : takes is (setN L i emp) with
      | none => simp only [h2] at h; cases h
      | some p =>
        obtain ⟨B', R'⟩ := p
        simp only [h2] at h
        cases h
        rw [sep_nth h1, List.cons_append, sep_cons, ← ih h2, sep_setN emp h1, emp_star]
/-- Parts put back into places that are empty; more of them behind. -/
def puts : List Nat → List HP → List HP → List HP
  | [], bs, R => R ++ bs
  | _ :: _, [], R => R
  | i :: is, b :: bs, R => puts is bs (setN R i b)
def Emps : List Nat → List HP → List HP → Prop
  | [], _, _ => True
  | _ :: _, [], _ => True
  | i :: is, b :: bs, R => nth R i = some emp ∧ Emps is bs (setN R i b)
theorem puts_sep : ∀ {is : List Nat} {B R : List HP}, Emps is B R → sep (B ++ R) = sep (puts is B R) := by
  intro is
  induction is with
  | nil => intro B R _; simp only [puts]; rw [sep_append, sep_append, star_comm]
  | cons i is ih =>
    intro B R h
    cases B with
    | nil => rfl
    | cons b B =>
      obtain ⟨h1, h2⟩ := h
      simp only [puts]
      rw [← ih h2, List.cons_append, sep_cons, sep_append, sep_append, sep_setN b h1, sep_nth h1, emp_star, star_left]
theorem WO.heap {P : Program} {n : Fs} {w0 : Ctx} {N : Cn} {f : Frm} {L : List HP} {D : Option (List (Option Nat))} {rest : List Oper} (M : List HP) (h : ∀ w, Sat w0 L w → Sat w0 M w) (k : WO P n w0 D rest N f M) : WO P n w0 D rest N f L :=
  fun ops hD Q hE hn a w fr s => k ops hD Q hE hn a w fr (h w s)
/-- How a function panics: with what, and which part of the heap stands then. -/
structure Pf where
  val : Int → Value
  keep : HP
/-- A contract: what comes back, or the number with which it panics; c: what is not told of the result (a block's number, a slice's value). -/
def TriX {α γ : Type} (P : Program) (g : FuncId) (args : List Value) (A : List HP) (r : Except Int α) (fv : Pf) (val : α → γ → Value) (B : α → γ → List HP) : Prop :=
  ∀ (w0 : World) (F : HP) (w : World), Sat w0 (A ++ [F]) w → Calls P g args.toArray w fun
    | .returned v, w' => ∃ a c, r = .ok a ∧ v = val a c ∧ Sat w0 (B a c ++ [F]) w'
    | .panicked ch, w' => ∃ q, r = .error q ∧ ch = [{ v := fv.val q, recovered := false }] ∧ Sat w0 [fv.keep, F] w'
    | .outgrown, _ => False
def DoneX {α γ : Type} (P : Program) (m : Fs) (rs : Array ResultVar) (r : Except Int α) (val : α → γ → Value) (B : α → γ → List HP) (F : HP) (w0 : Ctx) : Cn := fun f L =>
  ∃ a c v G, r = .ok a ∧ Res P m w0 rs f L v ∧ v = val a c ∧ ∀ w, Sat w0 L w → Sat w0 (B a c ++ F :: G) w
/-- Where a walk that may panic stands. -/
def ctxX {α : Type} (w0 : World) (r : Except Int α) (fv : Pf) (F : HP) : Ctx := ⟨w0, fun v _ L => ∃ q R, r = .error q ∧ v = fv.val q ∧ ∀ w, Sat w0 L w → Sat w0 (fv.keep :: F :: R) w⟩
section
variable {P : Program}
theorem TriX.of {α γ : Type} {g : FuncId} {fn : Func} {c : Code} {args : List Value} {A : List HP} {r : Except Int α} {fv : Pf} {val : α → γ → Value} {B : α → γ → List HP} {m : Nat} {rs : Array ResultVar}
    (hf : P.funcs[g]? = some fn) (hb : fn.body = some c) (hm : fn.ntmps = m) (hrs : fn.results = rs) (hs : Nat.ble args.length m = true)
    (h : ∀ (w0 : World) F, WP P ⟨m, []⟩ (ctxX w0 r fv F) c (DoneX P ⟨m, []⟩ rs r val B F (ctxX w0 r fv F)) noX (DoneX P ⟨m, []⟩ rs r val B F (ctxX w0 r fv F)) (argF 0 args) (A ++ [F])) : TriX P g args A r fv val B := by
  intro w0 F w s
  have cut : ∀ B G w, Sat w0 (B ++ F :: G) w → Sat w0 (B ++ [F]) w := by
    intro B G w s
    have s : Sat w0 ((B ++ [F]) ++ G) w := by rw [List.append_assoc]; exact s
    exact Sat.pre (w0 := ⟨w0, fun _ _ _ => False⟩) s
  refine calls_of_wp hf hb (h w0 F _ ?_ ?_ (fun _ _ _ _ _ x => x.elim) ?_ _ _ ?_ s)
  · rintro v f a w L ⟨q, R, hr, rfl, hF⟩ fr s
    refine ⟨fr.defers, q, hr, rfl, ?_⟩
    have s2 : Sat w0 ([fv.keep, F] ++ R) w := hF w s
    exact Sat.pre (w0 := ⟨w0, fun _ _ _ => False⟩) s2
  · rintro a w f L ⟨x, c, v, G, hr, hres, rfl, hi⟩ fr s
    exact ⟨fr.defers, _, hres a w fn hrs fr s, x, c, hr, rfl, cut _ G w (hi w s)⟩
  · rintro a w f L ⟨x, c, v, G, hr, hres, rfl, hi⟩ fr s
    exact ⟨fr.defers, _, hres a w fn hrs fr s, x, c, hr, rfl, cut _ G w (hi w s)⟩
  · refine ⟨rfl, ?_, fun i v e => ?_⟩
    · have := Nat.le_of_ble_eq_true hs; simp [hm]; omega
    · have := (argF_look args 0 i v e).2
      have this : args.toArray[i]? = some v := by simpa using this
      have hi : i < args.toArray.size := by
        rcases Nat.lt_or_ge i args.toArray.size with q | q
        · exact q
        · rw [Array.getElem?_eq_none q] at this; cases this
      rw [Array.getD_eq_getD_getElem?, Array.getElem?_append_left hi, this]; rfl
theorem TriX.mono {α γ β δ : Type} {g : FuncId} {args : List Value} {A : List HP} {r : Except Int α} {r' : Except Int β} {fv : Pf} {val : α → γ → Value} {val' : β → δ → Value} {B : α → γ → List HP} {B' : β → δ → List HP}
    (h : TriX P g args A r fv val B) (ko : ∀ a c, r = .ok a → ∃ a' c', r' = .ok a' ∧ val a c = val' a' c' ∧ B a c = B' a' c') (ke : ∀ q, r = .error q → r' = .error q) : TriX P g args A r' fv val' B' :=
  fun w0 F w s => (h w0 F w s).mono fun e w' q => match e, q with
    | .returned _, ⟨a, c, e1, e2, s⟩ => let ⟨a', c', f1, f2, f3⟩ := ko a c e1; ⟨a', c', f1, e2.trans f2, f3 ▸ s⟩
    | .panicked _, ⟨q, e1, e2, s⟩ => ⟨q, ke q e1, e2, s⟩
    | .outgrown, q => q.elim
section
variable {n : Fs} {w0 : Ctx} {f : Frm} {L : List HP} {d : Option Nat} {ty : TypeId} {pos : String} {af : Array Edge} {gd : Option (Nat × Bool)}
/-- A call that comes back. -/
theorem EO.callX {α γ : Type} {h : FuncId} {xs : Array Operand} {tys : Array TypeId} {vs : List Value} {A R : List HP} {a : α} {fv : Pf} {val : α → γ → Value} {B : α → γ → List HP} (is : List Nat)
    (hc : ∀ args w, (callFunc h args).run P w = .ok (.enter h args) w) (hx : evs f xs.toList = some vs) (hl : takes is L = some (A, R)) (ht : TriX P h vs A (.ok a) fv val B) (hp : ∀ c, Emps is (B a c) R) :
    EO P n w0 f L ⟨d, .call ⟨.value (.func h), xs, tys⟩, ty, pos, af, gd⟩ fun v L' => ∃ c, v = val a c ∧ L' = puts is (B a c) R := by
  intro Q hE K ac w fr s hK
  left
  unfold Oper.wp
  rw [run_call hc hx ac w fr, Oper.upon_enter]
  refine (ht w0 (sep R) w (s.eq (by rw [takes_sep hl, sep_append, sep_append, sep_one]))).mono ?_
  intro e w' q
  cases e with
  | returned v =>
    obtain ⟨a', c, e1, rfl, s'⟩ := q
    cases e1
    exact hK _ _ _ ⟨c, rfl, rfl⟩ (s'.eq (by rw [← puts_sep (hp c), sep_append, sep_append, sep_one]))
  | panicked _ => obtain ⟨q, e1, _⟩ := q; cases e1
  | outgrown => exact q.elim
/-- A call that panics. -/
theorem EO.callE {α γ : Type} {h : FuncId} {xs : Array Operand} {tys : Array TypeId} {vs : List Value} {A R : List HP} {q : Int} {fv : Pf} {val : α → γ → Value} {B : α → γ → List HP} (is : List Nat)
    (hc : ∀ args w, (callFunc h args).run P w = .ok (.enter h args) w) (hx : evs f xs.toList = some vs) (hl : takes is L = some (A, R)) (ht : TriX P h vs A (.error q) fv val B) (hE : w0.E (fv.val q) f (fv.keep :: R)) :
    EO P n w0 f L ⟨d, .call ⟨.value (.func h), xs, tys⟩, ty, pos, af, gd⟩ fun _ _ => False := by
  intro Q hQ K ac w fr s hK
  left
  unfold Oper.wp
  rw [run_call hc hx ac w fr, Oper.upon_enter]
  refine (ht w0 (sep R) w (s.eq (by rw [takes_sep hl, sep_append, sep_append, sep_one]))).mono ?_
  intro e w' p
  cases e with
  | returned v => obtain ⟨a', c, e1, _⟩ := p; cases e1
  | panicked _ =>
    obtain ⟨q', e1, rfl, s'⟩ := p
    cases e1
    exact hQ _ f ac w' (fv.keep :: R) hE fr (s'.eq (by rw [sep_cons, sep_cons, sep_nil, star_emp, sep_cons]))
  | outgrown => exact p.elim
/-- A panic with a value of an interface. -/
theorem Sat.emp1 {w0 w : World} {L : List HP} (s : Sat w0 L w) : Sat w0 (emp :: L) w := s.eq (by rw [sep_cons, emp_star])
theorem EO.panic {x : Operand} {t : TypeId} {v : Value} (hx : ev f x = some (.iface t v)) (hE : w0.E (.iface t v) f L) : EO P n w0 f L ⟨d, .panic x, ty, pos, af, gd⟩ fun _ _ => False := by
  intro Q hQ K ac w fr s hK
  left
  unfold Oper.wp
  have hr : (execOp ac.eval ⟨d, .panic x, ty, pos, af, gd⟩).run P w = .halt (.panic (.iface t v)) w := by
    simp only [execOp, fr.ev hx]; rfl
  rw [hr, Oper.upon_panic]
  exact hQ _ f ac w L hE fr s
end
end
end Go.Proofs.YtlnionilhagenaaGreatDoor
