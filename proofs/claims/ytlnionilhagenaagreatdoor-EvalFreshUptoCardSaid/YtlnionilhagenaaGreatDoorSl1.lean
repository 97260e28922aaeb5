/- Heap predicates, frames, and the rules of a walk over them: no program in sight. -/
import Derived.Below
import Derived.Orders
import Derived.WalkKit
namespace Go.Proofs.YtlnionilhagenaaGreatDoor
open Go.RowKit
set_option linter.all false

/-! ## Heaps -/
abbrev Hp := Nat → Option Obj
abbrev HP := Hp → Prop
def Hp.dis (h k : Hp) : Prop := ∀ b, h b = none ∨ k b = none
def Hp.un (h k : Hp) : Hp := fun b => (h b).or (k b)
def star (A B : HP) : HP := fun h => ∃ h1 h2, Hp.dis h1 h2 ∧ h = Hp.un h1 h2 ∧ A h1 ∧ B h2
def emp : HP := fun h => h = fun _ => none
def pt (b : Nat) (o : Obj) : HP := fun h => h = fun c => if c = b then some o else none
def pur (p : Prop) : HP := fun h => p ∧ emp h
def ex {α : Type} (A : α → HP) : HP := fun h => ∃ x, A x h
def sep : List HP → HP
  | [] => emp
  | A :: L => star A (sep L)

theorem Hp.dis_comm {h k : Hp} (d : Hp.dis h k) : Hp.dis k h := fun b => (d b).symm
theorem Hp.un_comm {h k : Hp} (d : Hp.dis h k) : Hp.un h k = Hp.un k h := by
  funext b; unfold Hp.un; rcases d b with e | e <;> simp [e]
theorem Hp.un_assoc (a b c : Hp) : Hp.un (Hp.un a b) c = Hp.un a (Hp.un b c) := by
  funext x; unfold Hp.un; cases a x <;> simp
theorem Hp.dis_un_left {a b c : Hp} (h : Hp.dis (Hp.un a b) c) : Hp.dis a c ∧ Hp.dis b c := by
  constructor
  · intro x; rcases h x with e | e
    · left; unfold Hp.un at e; cases ha : a x <;> simp_all
    · exact .inr e
  · intro x; rcases h x with e | e
    · left; unfold Hp.un at e; cases ha : a x <;> simp_all
    · exact .inr e
theorem Hp.dis_un_mk {a b c : Hp} (h : Hp.dis a c) (k : Hp.dis b c) : Hp.dis (Hp.un a b) c := by
  intro x; rcases h x with e | e
  · rcases k x with e' | e'
    · left; simp [Hp.un, e, e']
    · exact .inr e'
  · exact .inr e

theorem star_comm (A B : HP) : star A B = star B A := by
  funext h; apply propext; constructor
  · rintro ⟨h1, h2, d, rfl, a, b⟩; exact ⟨h2, h1, Hp.dis_comm d, Hp.un_comm d, b, a⟩
  · rintro ⟨h1, h2, d, rfl, a, b⟩; exact ⟨h2, h1, Hp.dis_comm d, Hp.un_comm d, b, a⟩
theorem star_assoc (A B C : HP) : star (star A B) C = star A (star B C) := by
  funext h; apply propext; constructor
  · rintro ⟨_, h3, d, rfl, ⟨h1, h2, d', rfl, a, b⟩, c⟩
    obtain ⟨d1, d2⟩ := Hp.dis_un_left d
    exact ⟨h1, Hp.un h2 h3, Hp.dis_comm (Hp.dis_un_mk (Hp.dis_comm d') (Hp.dis_comm d1)), Hp.un_assoc _ _ _, a, h2, h3, d2, rfl, b, c⟩
  · rintro ⟨h1, _, d, rfl, a, ⟨h2, h3, d', rfl, b, c⟩⟩
    obtain ⟨d1, d2⟩ := Hp.dis_un_left (Hp.dis_comm d)
    exact ⟨Hp.un h1 h2, h3, Hp.dis_un_mk (Hp.dis_comm d2) d', (Hp.un_assoc _ _ _).symm, ⟨h1, h2, Hp.dis_comm d1, rfl, a, b⟩, c⟩
theorem emp_star (A : HP) : star emp A = A := by
  funext h; apply propext; constructor
  · rintro ⟨h1, h2, d, rfl, e, a⟩
    have : Hp.un h1 h2 = h2 := by funext b; simp [Hp.un, show h1 = fun _ => none from e]
    rw [this]; exact a
  · intro a; exact ⟨fun _ => none, h, fun _ => .inl rfl, by funext b; simp [Hp.un], rfl, a⟩
theorem star_emp (A : HP) : star A emp = A := by rw [star_comm, emp_star]
theorem star_left (A B C : HP) : star A (star B C) = star B (star A C) := by
  rw [← star_assoc, star_comm A B, star_assoc]

@[simp] theorem sep_nil : sep [] = emp := rfl
theorem sep_cons (A : HP) (L : List HP) : sep (A :: L) = star A (sep L) := rfl
theorem sep_one (A : HP) : sep [A] = A := by rw [sep_cons, sep_nil, star_emp]
theorem sep_append (L M : List HP) : sep (L ++ M) = star (sep L) (sep M) := by
  induction L with
  | nil => simp [emp_star]
  | cons A L ih => rw [List.cons_append, sep_cons, ih, sep_cons, star_assoc]
theorem sep_perm {L M : List HP} (h : L.Perm M) : sep L = sep M := by
  induction h with
  | nil => rfl
  | cons A _ ih => rw [sep_cons, sep_cons, ih]
  | swap A B L => simp only [sep_cons]; rw [star_left]
  | trans _ _ a b => exact a.trans b
theorem sep_pick : ∀ {L : List HP} {i : Nat} {A : HP}, L[i]? = some A → sep L = star A (sep (L.eraseIdx i)) := by
  intro L
  induction L with
  | nil => intro i A h; simp at h
  | cons B L ih =>
    intro i A h
    cases i with
    | zero => simp at h; subst h; rfl
    | succ i => simp at h; rw [sep_cons, ih h, star_left]; rfl
theorem sep_set : ∀ {L : List HP} {i : Nat} {A : HP} (B : HP), L[i]? = some A → sep (L.set i B) = star B (sep (L.eraseIdx i)) := by
  intro L
  induction L with
  | nil => intro i A B h; simp at h
  | cons C L ih =>
    intro i A B h
    cases i with
    | zero => rfl
    | succ i => simp at h; rw [List.set_cons_succ, sep_cons, ih B h, star_left]; rfl
theorem star_ex {α : Type} (A : α → HP) (B : HP) : star (ex A) B = ex fun x => star (A x) B := by
  funext h; apply propext; constructor
  · rintro ⟨h1, h2, d, e, ⟨x, a⟩, b⟩; exact ⟨x, h1, h2, d, e, a, b⟩
  · rintro ⟨x, h1, h2, d, e, a, b⟩; exact ⟨h1, h2, d, e, ⟨x, a⟩, b⟩
theorem star_pur (p : Prop) (B : HP) (h : Hp) : star (pur p) B h ↔ p ∧ B h := by
  constructor
  · rintro ⟨h1, h2, d, e, ⟨hp, he⟩, b⟩
    have : star emp B h := ⟨h1, h2, d, e, he, b⟩
    rw [emp_star] at this; exact ⟨hp, this⟩
  · rintro ⟨hp, b⟩
    have : star emp B h := by rw [emp_star]; exact b
    obtain ⟨h1, h2, d, e, he, b⟩ := this
    exact ⟨h1, h2, d, e, ⟨hp, he⟩, b⟩

/-! ## A world that meets a list of heap predicates -/
structure Sat (w0 : World) (L : List HP) (w : World) : Prop where
  base : Below 0 w0 w
  heap : ∃ h : Hp, (∀ b o, h b = some o → w.heap[b]? = some o) ∧ sep L h

theorem Sat.eq {w0 w : World} {L M : List HP} (h : Sat w0 L w) (e : sep L = sep M) : Sat w0 M w := ⟨h.base, e ▸ h.heap⟩
theorem Sat.perm {w0 w : World} {L M : List HP} (h : Sat w0 L w) (p : L.Perm M) : Sat w0 M w := h.eq (sep_perm p)
theorem Sat.cut {w0 w : World} {L : List HP} {A : HP} (h : Sat w0 (A :: L) w) : Sat w0 L w := by
  obtain ⟨b, h, s, h1, h2, d, rfl, a, l⟩ := h
  refine ⟨b, h2, fun c o e => s c o ?_, l⟩
  rcases d c with e' | e'
  · simp [Hp.un, e', e]
  · rw [e'] at e; cases e
theorem Sat.erase {w0 w : World} {L : List HP} {i : Nat} {A : HP} (h : Sat w0 L w) (e : L[i]? = some A) : Sat w0 (L.eraseIdx i) w :=
  (h.eq (M := A :: L.eraseIdx i) (by rw [sep_cons]; exact sep_pick e)).cut
theorem Sat.drew {w0 w : World} {L : List HP} (h : Sat w0 L w) : Sat w0 L w.drew := ⟨h.base.drew, h.heap⟩
theorem Sat.get {w0 w : World} {L : List HP} {i b : Nat} {o : Obj} (h : Sat w0 L w) (e : L[i]? = some (pt b o)) : w.heap[b]? = some o := by
  obtain ⟨_, h, s, hs⟩ := h
  rw [sep_pick e] at hs
  obtain ⟨h1, h2, d, rfl, a, l⟩ := hs
  refine s b o ?_
  simp [Hp.un, show h1 = _ from a]
theorem Sat.put {w0 w : World} {L : List HP} {i b : Nat} {o : Obj} (h : Sat w0 L w) (e : L[i]? = some (pt b o)) (o' : Obj) :
    Sat w0 (L.set i (pt b o')) { w with heap := w.heap.setIfInBounds b o' } := by
  have hg := h.get e
  obtain ⟨bs, h, s, hs⟩ := h
  rw [sep_pick e] at hs
  obtain ⟨h1, h2, d, rfl, a, l⟩ := hs
  have hlt : b < w.heap.size := by
    rcases Nat.lt_or_ge b w.heap.size with q | q
    · exact q
    · simp [Array.getElem?_eq_none q] at hg
  refine ⟨⟨bs.os, bs.tape, bs.output, by simpa using bs.size, fun k hk => by omega⟩, Hp.un (fun c => if c = b then some o' else none) h2, ?_, ?_⟩
  · intro c p hc
    by_cases q : c = b
    · subst q
      simp [Hp.un] at hc; subst hc
      simp [Array.getElem?_setIfInBounds, hlt]
    · simp [Hp.un, q] at hc
      have : w.heap[c]? = some p := s c p (by simp [Hp.un, show h1 = _ from a, q, hc])
      simp only [Array.getElem?_setIfInBounds]
      rw [if_neg (fun x => q x.symm)]; exact this
  · rw [sep_set _ e]
    refine ⟨_, h2, fun c => ?_, rfl, rfl, l⟩
    by_cases q : c = b
    · subst q; right
      rcases d c with x | x
      · rw [show h1 = _ from a] at x; simp at x
      · exact x
    · left; simp [q]
theorem Sat.alloc {w0 w : World} {L : List HP} (h : Sat w0 L w) (o : Obj) : Sat w0 (L ++ [pt w.heap.size o]) (w.alloc o) := by
  obtain ⟨bs, h, s, hs⟩ := h
  refine ⟨bs.alloc (Nat.zero_le _) o, Hp.un h (fun c => if c = w.heap.size then some o else none), ?_, ?_⟩
  · intro c p hc
    unfold Hp.un at hc
    cases e : h c with
    | some q =>
      rw [e] at hc; simp at hc; subst hc
      have h0 := s c q e
      have hlt : c < w.heap.size := by
        rcases Nat.lt_or_ge c w.heap.size with q | q
        · exact q
        · simp [Array.getElem?_eq_none q] at h0
      show (w.heap.push o)[c]? = some q
      rw [Array.getElem?_push, if_neg (Nat.ne_of_lt hlt)]; exact h0
    | none =>
      rw [e] at hc; simp at hc
      obtain ⟨rfl, rfl⟩ := hc
      show (w.heap.push o)[w.heap.size]? = some o
      simp
  · rw [sep_append, sep_one]
    refine ⟨h, _, fun c => ?_, rfl, hs, rfl⟩
    by_cases q : c = w.heap.size
    · subst q; left
      cases e : h w.heap.size with
      | none => rfl
      | some p => have := s _ _ e; simp at this
    · right; simp [q]

/-- An element of a list, by recursion alone. -/
def lnth {α : Type} : List α → Nat → Option α
  | [], _ => none
  | a :: _, 0 => some a
  | _ :: l, i + 1 => lnth l i
theorem lnth_eq {α : Type} (l : List α) (i : Nat) : lnth l i = l[i]? := by
  induction l generalizing i with
  | nil => rfl
  | cons a l ih => cases i with
    | zero => rfl
    | succ i => simpa [lnth] using ih i
/-! ## Frames -/
abbrev Frm := List (Nat × Value)
def look : Frm → Nat → Option Value
  | [], _ => none
  | (j, v) :: f, i => bif Nat.beq j i then some v else look f i
def ev (f : Frm) : Operand → Option Value
  | .tmp t => look f t
  | .const v => some v
  | .global g => some (.pointer (some ⟨g, 0, none⟩))
  | .func k => some (.func (.func k) #[] #[])
/-- What is told of a frame: how many slots it has, what it has deferred. -/
structure Fs where
  n : Nat
  ds : List Deferred
instance : Coe Fs Nat := ⟨Fs.n⟩
structure Fr (n : Fs) (f : Frm) (a : Act) : Prop where
  defers : a.defers = n.ds
  size : a.tmps.size = n.n
  slot : ∀ i v, look f i = some v → a.tmps.getD i undef = v
theorem Fr.ev {n : Fs} {f : Frm} {a : Act} (h : Fr n f a) {x : Operand} {v : Value} (e : ev f x = some v) : a.eval x = v := by
  cases x with
  | tmp t => exact h.slot t v e
  | const c => simp [Proofs.YtlnionilhagenaaGreatDoor.ev] at e; simpa [Act.eval] using e
  | global g => simp [Proofs.YtlnionilhagenaaGreatDoor.ev] at e; simpa [Act.eval] using e
  | func k => simp [Proofs.YtlnionilhagenaaGreatDoor.ev] at e; simpa [Act.eval] using e
theorem Fr.put {n : Fs} {f : Frm} {a : Act} (h : Fr n f a) {d : Nat} (hd : d < n.n) (v : Value) : Fr n ((d, v) :: f) (a.put (some d) v) := by
  refine ⟨h.defers, by simp [Act.put, h.size], fun i u e => ?_⟩
  simp only [look] at e
  by_cases q : d = i
  · subst q
    have : Nat.beq d d = true := Nat.beq_refl d
    rw [this] at e; simp at e; subst e
    simp [Act.put, Array.getD, h.size, hd]
  · have : Nat.beq d i = false := by
      cases x : Nat.beq d i with
      | false => rfl
      | true => exact absurd (Nat.eq_of_beq_eq_true x) q
    rw [this] at e; simp at e
    have := h.slot i u e
    rw [← this]
    simp only [Act.put, Array.getD_eq_getD_getElem?, Array.getElem?_setIfInBounds_ne q]
theorem Fr.sub {n : Fs} {f g : Frm} {a : Act} (h : Fr n f a) (e : ∀ i v, look g i = some v → look f i = some v) : Fr n g a :=
  ⟨h.defers, h.size, fun i v q => h.slot i v (e i v q)⟩
/-- A frame of slots that are known: each slot is looked up in the frame that stands. -/
def Holds (f : Frm) : Frm → Prop
  | [] => True
  | (i, v) :: g => look f i = some v ∧ Holds f g
theorem Holds.sub {f : Frm} : ∀ {g : Frm}, Holds f g → ∀ i v, look g i = some v → look f i = some v := by
  intro g
  induction g with
  | nil => intro _ i v q; cases q
  | cons p g ih =>
    obtain ⟨j, u⟩ := p
    intro h i v q
    simp only [look] at q
    cases x : Nat.beq j i with
    | false => rw [x] at q; exact ih h.2 i v q
    | true =>
      rw [x] at q; simp at q; subst q
      rw [← Nat.eq_of_beq_eq_true x]; exact h.1
/-- What a walk stands on: the world at its beginning, and what is asked where it panics. -/
structure Ctx where
  w0 : World
  E : Value → Frm → List HP → Prop
instance : Coe Ctx World := ⟨Ctx.w0⟩
end Go.Proofs.YtlnionilhagenaaGreatDoor
