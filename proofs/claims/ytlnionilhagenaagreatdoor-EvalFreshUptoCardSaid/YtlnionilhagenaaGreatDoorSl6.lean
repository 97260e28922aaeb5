/- A region whose order is open: what each operation comes to does not hang on it. -/
import Derived.Test.YtlnionilhagenaaGreatDoorSl5
import Derived.LoopN
namespace Go.Proofs.YtlnionilhagenaaGreatDoor
open Go.RowKit
set_option linter.all false

/-- Of an operation: on which it leans (by their places), from which stage of the heap on it may stand, at how many more, whether it turns the heap. -/
structure Inf where
  js : List Nat
  lo : Nat
  c : Nat
  eff : Bool
def leans (o : Oper) (j : Nat) : Bool := o.after.toList.any fun e => Nat.beq e.on j && (match e.ground with | .textOnly _ => false | .gcOnly _ => false | _ => true)
/-- Leans on, through others. -/
def ltB (l : List Oper) : Nat → Nat → Nat → Bool
  | 0, _, _ => false
  | k + 1, i, j => match lnth l i with
    | some o => leans o j || o.after.toList.any fun e => leans o e.on && ltB l k e.on j
    | none => false
def leansT (l : List Oper) (i j : Nat) : Bool := ltB l l.length i j
def depF (l : List Oper) (vs : List Value) (f0 : Frm) : List Nat → Frm
  | [] => f0
  | j :: js => match (lnth l j).bind Oper.dst, lnth vs j with
    | some d, some v => (d, v) :: depF l vs f0 js
    | _, _ => depF l vs f0 js
def allF (f0 : Frm) : List Oper → List Value → Frm
  | o :: l, v :: vs => match o.dst with
    | some d => (d, v) :: allF f0 l vs
    | none => allF f0 l vs
  | _, _ => f0
/-- Values that agree where a mark is set. -/
def AgreeM : List Bool → List Value → List Value → Prop
  | true :: m, a :: as, b :: bs => a = b ∧ AgreeM m as bs
  | false :: m, _ :: as, _ :: bs => AgreeM m as bs
  | _, [], [] => True
  | _, _, _ => False
section
variable (P : Program) (n : Fs) (w0 : Ctx) (D : Option (List (Option Nat))) {γ : Type}
def hAt (Hs : List (List HP)) (s : Nat) : List HP := (lnth Hs s).getD []
def Ob1 (Hs : γ → List (List HP)) (l : List Oper) (vs : γ → List Value) (f0 : Frm) (js : List Nat) (o : Oper) (v : γ → Option Value) : Nat → Nat → Prop
  | s, 0 => ∀ g, SO P n w0 D (depF l (vs g) f0 js) (hAt (Hs g) s) o (fun v' L' => v g = some v' ∧ L' = hAt (Hs g) s)
  | s, c + 1 => (∀ g, SO P n w0 D (depF l (vs g) f0 js) (hAt (Hs g) s) o (fun v' L' => v g = some v' ∧ L' = hAt (Hs g) s)) ∧ Ob1 Hs l vs f0 js o v (s + 1) c
/-- The marks of what does not lean on an effect. -/
def masks (l : List Oper) (i : Nat) : Nat → List Oper → List Bool
  | _, [] => []
  | j, _ :: os => (!(Nat.beq j i || leansT l j i)) :: masks l i (j + 1) os
def Ob (Hs : γ → List (List HP)) (l : List Oper) (vs : γ → List Value) (f0 : Frm) (i : Nat) (o : Oper) (x : Inf) : Prop :=
  match x.eff with
  | true => ∀ g, SO P n w0 D (depF l (vs g) f0 x.js) (hAt (Hs g) x.lo) o (fun v' L' => ∃ g', (o.dst.isSome = true → lnth (vs g') i = some v') ∧ L' = hAt (Hs g') (x.lo + 1) ∧ AgreeM (masks l i 0 l) (vs g') (vs g))
  | false => Ob1 P n w0 D Hs l vs f0 x.js o (fun g => lnth (vs g) i) x.lo x.c
def Obs (Hs : γ → List (List HP)) (l : List Oper) (vs : γ → List Value) (f0 : Frm) : Nat → List Oper → List Inf → Prop
  | i, o :: os, x :: xs => Ob P n w0 D Hs l vs f0 i o x ∧ Obs Hs l vs f0 (i + 1) os xs
  | _, [], [] => True
  | _, _, _ => False
end
/-- What is asked of the places. -/
def ordOk : Nat → List Oper → Bool
  | _, [] => true
  | i, o :: l => (o.after.toList.all fun e => (match e.ground with | .textOnly _ => true | .gcOnly _ => true | _ => Nat.blt e.on i)) && ordOk (i + 1) l
def dstsOf : List Oper → List Nat
  | [] => []
  | o :: l => match o.dst with
    | some d => d :: dstsOf l
    | none => dstsOf l
def nodupB : List Nat → Bool
  | [] => true
  | a :: l => !(l.any fun b => Nat.beq a b) && nodupB l
def freshB (f0 : Frm) (ds : List Nat) : Bool := f0.all fun p => !(ds.any fun d => Nat.beq p.1 d)
/-- The effects, in their chain: the k-th stands at E k and leans on the one ahead. -/
def chainOk (l : List Oper) (inf : List Inf) (E : List Nat) : Nat → List Nat → Bool
  | _, [] => true
  | k, e :: es => (match lnth l e, lnth inf e with
      | some o, some x => x.eff && Nat.beq x.lo k && (match k with | 0 => true | k' + 1 => (match lnth E k' with | some p => leansT l e p | none => false))
      | _, _ => false) && chainOk l inf E (k + 1) es
/-- What is no effect: its stages. -/
def stageOk (l : List Oper) (E : List Nat) (i : Nat) (o : Oper) (x : Inf) : Bool :=
  x.js.all (fun j => leans o j) &&
  (match x.eff with
   | true => (match lnth E x.lo with | some e => Nat.beq e i | none => false)
   | false => (match x.lo with | 0 => true | k + 1 => (match lnth E k with | some p => leansT l i p | none => false)) &&
      (match lnth E (x.lo + x.c) with | none => Nat.beq (x.lo + x.c) E.length | some p => leansT l p i))
def stagesOk (l : List Oper) (E : List Nat) : Nat → List Oper → List Inf → Bool
  | _, [], [] => true
  | i, o :: os, x :: xs => stageOk l E i o x && stagesOk l E (i + 1) os xs
  | _, _, _ => false
/-- The slots that are written, but for the q-th operation's. -/
def dstsX (q : Nat) : Nat → List Oper → List Nat
  | _, [] => []
  | i, o :: l => match o.dst with
    | some d => bif Nat.beq i q then dstsX q (i + 1) l else d :: dstsX q (i + 1) l
    | none => dstsX q (i + 1) l
/-- The q-th leans on all others. -/
def lateB (l : List Oper) (q : Nat) : Nat → List Oper → Bool
  | _, [] => true
  | i, _ :: os => (Nat.beq i q || leansT l q i) && lateB l q (i + 1) os
/-- f0: what is read; f1: what stays; the q-th operation may write what is in f0 alone (l.length: none does). -/
def drawOk (l : List Oper) (f0 f1 : Frm) (q : Nat) (inf : List Inf) (E : List Nat) : Bool :=
  ordOk 0 l && nodupB (dstsOf l) && freshB f1 (dstsOf l) && chainOk l inf E 0 E && stagesOk l E 0 l inf && freshB f0 (dstsX q 0 l) && (Nat.ble l.length q || lateB l q 0 l)

section proofs
variable {P : Program} {n : Fs} {w0 : Ctx} {D : Option (List (Option Nat))}
theorem leans_binds {o : Oper} {j : Nat} (h : leans o j = true) : ∃ e ∈ o.after.toList, e.on = j ∧ Region.binds .any e = true := by
  unfold leans at h
  rw [List.any_eq_true] at h
  obtain ⟨e, he, hb⟩ := h
  rw [Bool.and_eq_true] at hb
  refine ⟨e, he, Nat.eq_of_beq_eq_true hb.1, ?_⟩
  unfold Region.binds
  cases hg : e.ground <;> simp_all
theorem ready_leans {l : List Oper} {listed : Array Bool} {i j : Nat} {o : Oper} (hi : i ∈ Region.ready .any l.toArray listed) (ho : lnth l i = some o) (h : leans o j = true) : listed.getD j false = true := by
  unfold Region.ready at hi
  rw [List.mem_filter] at hi
  obtain ⟨_, h2⟩ := hi
  rw [Bool.and_eq_true] at h2
  have ho' : l.toArray[i]? = some o := by rw [lnth_eq] at ho; simpa using ho
  rw [ho'] at h2
  simp only [Option.map_some, Option.getD_some] at h2
  obtain ⟨e, he, rfl, hb⟩ := leans_binds h
  have := h2.2
  rw [Array.all_eq_true_iff_forall_mem] at this
  have := this e (by simpa using he)
  rw [hb] at this
  simpa using this
theorem ready_fresh {l : List Oper} {listed : Array Bool} {i : Nat} (hi : i ∈ Region.ready .any l.toArray listed) : i < l.length ∧ listed.getD i true = false := by
  unfold Region.ready at hi
  rw [List.mem_filter] at hi
  obtain ⟨h1, h2⟩ := hi
  rw [Bool.and_eq_true] at h2
  exact ⟨by simpa using h1, by simpa using h2.1⟩
theorem ordOk_at : ∀ (l : List Oper) (i k : Nat) (o : Oper), ordOk i l = true → lnth l k = some o → ∀ e ∈ o.after.toList, Region.binds .any e = true → e.on < i + k := by
  intro l
  induction l with
  | nil => intro i k o _ h; cases h
  | cons p l ih =>
    intro i k o h hk e he hb
    simp only [ordOk, Bool.and_eq_true] at h
    cases k with
    | zero =>
      simp only [lnth] at hk; cases hk
      have := List.all_eq_true.1 h.1 e he
      unfold Region.binds at hb
      cases hg : e.ground <;> simp_all [Nat.blt_eq]
    | succ k =>
      simp only [lnth] at hk
      have := ih (i + 1) k o h.2 hk e he hb
      omega
theorem depF_look {l : List Oper} {vs : List Value} {f0 : Frm} : ∀ {js : List Nat} {t : Nat} {u : Value}, look (depF l vs f0 js) t = some u →
    look f0 t = some u ∨ ∃ j ∈ js, ∃ o, lnth l j = some o ∧ o.dst = some t ∧ lnth vs j = some u := by
  intro js
  induction js with
  | nil => intro t u h; exact .inl h
  | cons j js ih =>
    intro t u h
    unfold depF at h
    have rec_ : look (depF l vs f0 js) t = some u → look f0 t = some u ∨ ∃ i ∈ j :: js, ∃ o, lnth l i = some o ∧ o.dst = some t ∧ lnth vs i = some u := fun h => by
      rcases ih h with h | ⟨i, hi, r⟩
      · exact .inl h
      · exact .inr ⟨i, by simp [hi], r⟩
    split at h
    · rename_i d v h1 h2
      simp only [look] at h
      cases e : Nat.beq d t with
      | false => rw [e] at h; exact rec_ h
      | true =>
        rw [e] at h; simp at h; subst h
        cases ho : lnth l j with
        | none => rw [ho] at h1; cases h1
        | some o => rw [ho] at h1; exact .inr ⟨j, by simp, o, ho, by rw [← Nat.eq_of_beq_eq_true e]; exact h1, h2⟩
    · exact rec_ h
theorem dstsOf_mem : ∀ {l : List Oper} {j : Nat} {o : Oper} {d : Nat}, lnth l j = some o → o.dst = some d → d ∈ dstsOf l := by
  intro l
  induction l with
  | nil => intro j o d h; cases h
  | cons p l ih =>
    intro j o d h hd
    cases j with
    | zero => simp only [lnth] at h; cases h; simp [dstsOf, hd]
    | succ j =>
      simp only [lnth] at h
      have := ih h hd
      unfold dstsOf; split
      · simp [this]
      · exact this
theorem dstsX_mem {q : Nat} : ∀ {l : List Oper} {i j : Nat} {o : Oper} {d : Nat}, lnth l j = some o → o.dst = some d → i + j ≠ q → d ∈ dstsX q i l := by
  intro l
  induction l with
  | nil => intro i j o d h; cases h
  | cons p l ih =>
    intro i j o d h hd hq
    cases j with
    | zero =>
      simp only [lnth] at h; cases h
      have : Nat.beq i q = false := by
        cases e : Nat.beq i q with
        | false => rfl
        | true => exact absurd (Nat.eq_of_beq_eq_true e) hq
      simp [dstsX, hd, this]
    | succ j =>
      simp only [lnth] at h
      have := ih (i := i + 1) h hd (by omega)
      unfold dstsX; split
      · cases Nat.beq i q <;> simp [this]
      · exact this
theorem lateB_at {l : List Oper} {q : Nat} : ∀ {os : List Oper} {i j : Nat}, lateB l q i os = true → j < os.length → i + j = q ∨ leansT l q (i + j) = true := by
  intro os
  induction os with
  | nil => intro i j _ h; simp at h
  | cons o os ih =>
    intro i j h hj
    simp only [lateB, Bool.and_eq_true, Bool.or_eq_true] at h
    cases j with
    | zero => exact h.1.imp Nat.eq_of_beq_eq_true id
    | succ j => rw [show i + (j + 1) = i + 1 + j from by omega]; exact ih h.2 (by simpa using hj)
theorem nodupB_ne : ∀ {l : List Oper} {i j : Nat} {o q : Oper} {d : Nat}, nodupB (dstsOf l) = true → lnth l i = some o → lnth l j = some q → o.dst = some d → q.dst = some d → i = j := by
  intro l
  induction l with
  | nil => intro i j o q d _ h; cases h
  | cons p l ih =>
    intro i j o q d hn hi hj ho hq
    have hn' : nodupB (dstsOf l) = true := by
      unfold dstsOf at hn
      split at hn
      · simp only [nodupB, Bool.and_eq_true] at hn; exact hn.2
      · exact hn
    have key : ∀ k r, lnth l k = some r → r.dst = some d → p.dst = some d → False := fun k r hk hr hp => by
      unfold dstsOf at hn
      rw [hp] at hn
      simp only [nodupB, Bool.and_eq_true] at hn
      have hm := dstsOf_mem hk hr
      have := hn.1
      simp only [Bool.not_eq_true', List.any_eq_false] at this
      have := this d hm
      rw [Nat.beq_refl] at this; exact this rfl
    cases i with
    | zero =>
      cases j with
      | zero => rfl
      | succ j => simp only [lnth] at hi hj; cases hi; exact (key j q hj hq ho).elim
    | succ i =>
      cases j with
      | zero => simp only [lnth] at hi hj; cases hj; exact (key i o hi ho hq).elim
      | succ j => simp only [lnth] at hi hj; rw [ih hn' hi hj ho hq]
theorem freshB_ne {f0 : Frm} {ds : List Nat} (h : freshB f0 ds = true) {t : Nat} {u : Value} (hl : look f0 t = some u) : t ∉ ds := by
  induction f0 with
  | nil => cases hl
  | cons p f0 ih =>
    unfold freshB at h
    rw [List.all_cons, Bool.and_eq_true] at h
    simp only [look] at hl
    cases e : Nat.beq p.1 t with
    | false => rw [e] at hl; exact ih h.2 hl
    | true =>
      intro hm
      have := h.1
      rw [Nat.eq_of_beq_eq_true e] at this
      simp only [Bool.not_eq_true', List.any_eq_false] at this
      have := this t hm
      rw [Nat.beq_refl] at this; exact this rfl
theorem AgreeM_at : ∀ {m : List Bool} {as bs : List Value} {j : Nat}, AgreeM m as bs → lnth m j = some true → lnth as j = lnth bs j := by
  intro m
  induction m with
  | nil => intro as bs j _ h; cases h
  | cons b m ih =>
    intro as bs j h hj
    cases as with
    | nil => cases bs with
      | nil => rfl
      | cons _ _ => cases b <;> exact h.elim
    | cons a as => cases bs with
      | nil => cases b <;> exact h.elim
      | cons c bs =>
        cases j with
        | zero => simp only [lnth] at hj; cases hj; simp only [lnth]; rw [h.1]
        | succ j =>
          simp only [lnth] at hj ⊢
          cases b with
          | true => exact ih h.2 hj
          | false => exact ih h hj
theorem masks_at {l : List Oper} {i : Nat} : ∀ {os : List Oper} {k j : Nat}, j < os.length → lnth (masks l i k os) j = some (!(Nat.beq (k + j) i || leansT l (k + j) i)) := by
  intro os
  induction os with
  | nil => intro k j h; simp at h
  | cons o os ih =>
    intro k j h
    cases j with
    | zero => rfl
    | succ j =>
      simp only [masks, lnth]
      rw [ih (by simpa using h), show k + 1 + j = k + (j + 1) from by omega]
/-- Where a region stands of which some operations are done. -/
structure Stand {γ : Type} (P : Program) (n : Fs) (w0 : Ctx) (l : List Oper) (vs : γ → List Value) (f0 f1 : Frm) (q : Nat) (E : List Nat) (Hs : γ → List (List HP)) (listed : Array Bool) (a : Act) (w : World) (s : Nat) (g : γ) : Prop where
  le : s ≤ E.length
  eff : ∀ k e, lnth E k = some e → (listed.getD e false = true ↔ k < s)
  old : Fr n f1 a
  lat : listed.getD q false = false → Fr n f0 a
  new : ∀ j o d v, listed.getD j false = true → lnth l j = some o → o.dst = some d → lnth (vs g) j = some v → a.tmps.getD d undef = v
  shut : ∀ j o k, listed.getD j false = true → lnth l j = some o → leans o k = true → listed.getD k false = true
  sat : Sat w0 (hAt (Hs g) s) w
theorem shut_T {l : List Oper} {listed : Array Bool} (hs : ∀ j o k, listed.getD j false = true → lnth l j = some o → leans o k = true → listed.getD k false = true) :
    ∀ (m i j : Nat), ltB l m i j = true → (∀ o k, lnth l i = some o → leans o k = true → listed.getD k false = true) → listed.getD j false = true := by
  intro m
  induction m with
  | zero => intro i j h; cases h
  | succ m ih =>
    intro i j h hi
    unfold ltB at h
    split at h
    · rename_i o ho
      rw [Bool.or_eq_true] at h
      rcases h with h | h
      · exact hi o j ho h
      · rw [List.any_eq_true] at h
        obtain ⟨e, _, he⟩ := h
        rw [Bool.and_eq_true] at he
        exact ih e.on j he.2 fun o' k ho' hk => hs e.on o' k (hi o e.on ho he.1) ho' hk
    · cases h
theorem stagesOk_at {l : List Oper} {E : List Nat} : ∀ {os : List Oper} {xs : List Inf} {i k : Nat} {o : Oper}, stagesOk l E i os xs = true → lnth os k = some o → ∃ x, lnth xs k = some x ∧ stageOk l E (i + k) o x = true := by
  intro os
  induction os with
  | nil => intro xs i k o _ h; cases h
  | cons p os ih =>
    intro xs i k o h hk
    cases xs with
    | nil => cases h
    | cons x xs =>
      simp only [stagesOk, Bool.and_eq_true] at h
      cases k with
      | zero => simp only [lnth] at hk; cases hk; exact ⟨x, rfl, h.1⟩
      | succ k =>
        simp only [lnth] at hk
        obtain ⟨y, h1, h2⟩ := ih h.2 hk
        exact ⟨y, h1, by rw [show i + (k + 1) = i + 1 + k from by omega]; exact h2⟩
theorem Obs_at {γ : Type} {Hs : γ → List (List HP)} {l : List Oper} {vs : γ → List Value} {f0 : Frm} : ∀ {os : List Oper} {xs : List Inf} {i k : Nat} {o : Oper} {x : Inf}, Obs P n w0 D Hs l vs f0 i os xs → lnth os k = some o → lnth xs k = some x →
    Ob P n w0 D Hs l vs f0 (i + k) o x := by
  intro os
  induction os with
  | nil => intro xs i k o x _ h; cases h
  | cons p os ih =>
    intro xs i k o x h hk hx
    cases xs with
    | nil => cases hx
    | cons y xs =>
      cases k with
      | zero => simp only [lnth] at hk hx; cases hk; cases hx; exact h.1
      | succ k =>
        simp only [lnth] at hk hx
        rw [show i + (k + 1) = i + 1 + k from by omega]
        exact ih h.2 hk hx
theorem Ob1_at {γ : Type} {Hs : γ → List (List HP)} {l : List Oper} {vs : γ → List Value} {f0 : Frm} {js : List Nat} {o : Oper} {v : γ → Option Value} : ∀ {c lo s : Nat}, Ob1 P n w0 D Hs l vs f0 js o v lo c → lo ≤ s → s ≤ lo + c →
    ∀ g, SO P n w0 D (depF l (vs g) f0 js) (hAt (Hs g) s) o (fun v' L' => v g = some v' ∧ L' = hAt (Hs g) s) := by
  intro c
  induction c with
  | zero =>
    intro lo s h h1 h2
    obtain rfl : lo = s := by omega
    exact h
  | succ c ih =>
    intro lo s h h1 h2
    rcases Nat.eq_or_lt_of_le h1 with e | e
    · subst e; exact h.1
    · exact ih h.2 e (by omega)
theorem chainOk_at {l : List Oper} {inf : List Inf} {E : List Nat} : ∀ {es : List Nat} {k j e : Nat}, chainOk l inf E k es = true → lnth es j = some e → ∃ o x, lnth l e = some o ∧ lnth inf e = some x ∧ x.eff = true ∧ x.lo = k + j ∧
    (∀ m, k + j = m + 1 → ∃ p, lnth E m = some p ∧ leansT l e p = true) := by
  intro es
  induction es with
  | nil => intro k j e _ h; cases h
  | cons q es ih =>
    intro k j e h hj
    simp only [chainOk, Bool.and_eq_true] at h
    cases j with
    | zero =>
      simp only [lnth] at hj; cases hj
      have h1 := h.1
      split at h1
      · rename_i o x ho hx
        simp only [Bool.and_eq_true] at h1
        refine ⟨o, x, ho, hx, h1.1.1, by simpa using Nat.eq_of_beq_eq_true h1.1.2, fun m hm => ?_⟩
        have h2 := h1.2
        simp at hm; subst hm
        dsimp only at h2
        split at h2
        · rename_i p hp; exact ⟨p, hp, h2⟩
        · cases h2
      · cases h1
    | succ j =>
      simp only [lnth] at hj
      obtain ⟨o, x, a, b, c, d, e⟩ := ih h.2 hj
      exact ⟨o, x, a, b, c, by rw [d]; omega, fun m hm => e m (by omega)⟩
theorem allF_look : ∀ {l : List Oper} {vs : List Value} {f0 : Frm} {t : Nat} {u : Value}, look (allF f0 l vs) t = some u →
    look f0 t = some u ∨ ∃ (j : Nat) (o : Oper), lnth l j = some o ∧ o.dst = some t ∧ lnth vs j = some u := by
  intro l
  induction l with
  | nil => intro vs f0 t u h; exact .inl h
  | cons o l ih =>
    intro vs f0 t u h
    cases vs with
    | nil => exact .inl h
    | cons v vs =>
      have rec_ : look (allF f0 l vs) t = some u → look f0 t = some u ∨ ∃ (j : Nat) (q : Oper), lnth (o :: l) j = some q ∧ q.dst = some t ∧ lnth (v :: vs) j = some u := fun h => by
        rcases ih h with h | ⟨j, q, r⟩
        · exact .inl h
        · exact .inr ⟨j + 1, q, r⟩
      unfold allF at h
      split at h
      · rename_i d hd
        simp only [look] at h
        cases e : Nat.beq d t with
        | false => rw [e] at h; exact rec_ h
        | true => rw [e] at h; simp at h; subst h; exact .inr ⟨0, o, rfl, by rw [← Nat.eq_of_beq_eq_true e]; exact hd, rfl⟩
      · exact rec_ h
theorem Stand.step {γ : Type} {l : List Oper} {vs : γ → List Value} {f0 f1 : Frm} {q : Nat} {inf : List Inf} {E : List Nat} {Hs : γ → List (List HP)} (chk : drawOk l f0 f1 q inf E = true)
    (obl : Obs P n w0 D Hs l vs f0 0 l inf) (hdst : (dstsOf l).all (fun d => Nat.blt d n) = true)
    {Q : Exit → Act → World → Prop} (hPn : Pan n w0 Q) (hD : ∀ D' : List (Option Nat), D = some D' → ∀ j : Nat, (l.toArray[j]?).bind Oper.dst = (D'[j]?).join)
    {listed : Array Bool} (hsz : listed.size = l.length) {a : Act} {w : World} {s : Nat} {g : γ} (st : Stand P n w0 l vs f0 f1 q E Hs listed a w s g)
    {i : Nat} (hi : i ∈ Region.ready .any l.toArray listed) {K : Act → World → Prop}
    (hK : ∀ a w s g, Stand P n w0 l vs f0 f1 q E Hs (listed.setIfInBounds i true) a w s g → K a w) : wpOp P l.toArray Q i K a w := by
  simp only [drawOk, Bool.and_eq_true] at chk
  obtain ⟨⟨⟨⟨⟨⟨hord, hnd⟩, hfr⟩, hch⟩, hst⟩, hfx⟩, hlate⟩ := chk
  obtain ⟨hlt, hnot⟩ := ready_fresh hi
  have hnot' : listed.getD i false = false := by
    rw [Array.getD_eq_getD_getElem?] at hnot ⊢
    rw [Array.getElem?_eq_getElem (by omega)] at hnot ⊢
    exact hnot
  obtain ⟨o, hoi⟩ : ∃ o, lnth l i = some o := ⟨l[i], by rw [lnth_eq]; simp [hlt]⟩
  have hoi' : l.toArray[i]? = some o := by rw [lnth_eq] at hoi; simpa using hoi
  obtain ⟨x, hx, hso⟩ := stagesOk_at hst hoi
  rw [Nat.zero_add] at hso
  have hob := Obs_at obl hoi hx
  rw [Nat.zero_add] at hob
  simp only [stageOk, Bool.and_eq_true] at hso
  obtain ⟨hjs, hstage⟩ := hso
  have hrT : ∀ j, leansT l i j = true → listed.getD j false = true := fun j hj =>
    shut_T st.shut _ i j hj fun o' k ho' hk => by rw [hoi] at ho'; cases ho'; exact ready_leans hi hoi hk
  have hql : listed.getD q false = false := by
    rw [Bool.or_eq_true] at hlate
    rcases hlate with h | h
    · have := Nat.le_of_ble_eq_true h
      rw [Array.getD_eq_getD_getElem?, Array.getElem?_eq_none (by omega)]; rfl
    · rcases lateB_at (j := i) h hlt with e | e
      · rw [Nat.zero_add] at e; rw [← e]; exact hnot'
      · rw [Nat.zero_add] at e
        cases hq : listed.getD q false with
        | false => rfl
        | true =>
          have := shut_T st.shut _ q i e fun o' k ho' hk => st.shut q o' k hq ho' hk
          rw [hnot'] at this; cases this
  have hold := st.lat hql
  -- the frame that it leans on
  have hfrm : Fr n (depF l (vs g) f0 x.js) a := by
    refine ⟨hold.defers, hold.size, fun t u h => ?_⟩
    rcases depF_look h with h | ⟨j, hj, q, hq, hqd, hqv⟩
    · exact hold.slot t u h
    · exact st.new j q t u (ready_leans hi hoi (List.all_eq_true.1 hjs j hj)) hq hqd hqv
  have hset : ∀ e : Nat, (listed.setIfInBounds i true).getD e false = true ↔ (e = i ∨ listed.getD e false = true) := by
    intro e
    by_cases q : e = i
    · subst q
      rw [Array.getD_eq_getD_getElem?, Array.getElem?_setIfInBounds_self]
      simp [show e < listed.size from by omega]
    · rw [Array.getD_eq_getD_getElem?, Array.getElem?_setIfInBounds_ne (fun h => q h.symm), ← Array.getD_eq_getD_getElem?]
      simp [q]
  -- what stands when it is done
  have fin : ∀ (v' : Value) (g' : γ) (w' : World) (s' : Nat), (o.dst.isSome = true → lnth (vs g') i = some v') → s' ≤ E.length →
      (∀ j, listed.getD j false = true → j < l.length → lnth (vs g') j = lnth (vs g) j) →
      (∀ k e, lnth E k = some e → ((listed.setIfInBounds i true).getD e false = true ↔ k < s')) → Sat w0 (hAt (Hs g') s') w' → K (a.put o.dst v') w' := by
    intro v' g' w' s' hv' hle hag heff hs'
    refine hK _ _ s' g' ⟨hle, heff, ?_, ?_, ?_, ?_, hs'⟩
    rotate_left 1
    · intro hl
      have hne : i ≠ q := fun e => by
        subst e
        have := (hset i).2 (.inl rfl)
        rw [hl] at this; cases this
      cases hd : o.dst with
      | none => exact hold
      | some d =>
        have hdn : d < n := by
          have := List.all_eq_true.1 hdst d (dstsOf_mem hoi hd)
          simpa [Nat.blt_eq] using this
        have hput := hold.put hdn v'
        refine ⟨hput.defers, hput.size, fun t u h => hput.slot t u ?_⟩
        simp only [look]
        have : Nat.beq d t = false := by
          cases e : Nat.beq d t with
          | false => rfl
          | true => exact absurd (dstsX_mem (i := 0) hoi hd (by rw [Nat.zero_add]; exact hne)) (by rw [Nat.eq_of_beq_eq_true e]; exact freshB_ne hfx h)
        rw [this]; exact h
    rotate_left 1
    · intro j q k hl hq hk
      rw [hset] at hl ⊢
      rcases hl with h | h
      · subst h; rw [hoi] at hq; cases hq; exact .inr (ready_leans hi hoi hk)
      · exact .inr (st.shut j q k h hq hk)
    · cases hd : o.dst with
      | none => exact st.old
      | some d =>
        have hdn : d < n := by
          have := List.all_eq_true.1 hdst d (dstsOf_mem hoi hd)
          simpa [Nat.blt_eq] using this
        have hput := st.old.put hdn v'
        refine ⟨hput.defers, hput.size, fun t u h => hput.slot t u ?_⟩
        simp only [look]
        have : Nat.beq d t = false := by
          cases e : Nat.beq d t with
          | false => rfl
          | true => exact absurd (dstsOf_mem hoi hd) (by rw [Nat.eq_of_beq_eq_true e]; exact freshB_ne hfr h)
        rw [this]; exact h
    · intro j q d u hl hq hqd hqv
      by_cases e : j = i
      · subst e
        rw [hoi] at hq; cases hq
        have := hv' (by rw [hqd]; rfl)
        rw [this] at hqv; cases hqv
        have hdn : d < n := by
          have := List.all_eq_true.1 hdst d (dstsOf_mem hoi hqd)
          simpa [Nat.blt_eq] using this
        rw [hqd]
        exact (st.old.put hdn v').slot d v' (by simp only [look]; rw [Nat.beq_refl]; rfl)
      · have hl' : listed.getD j false = true := by
          rw [Array.getD_eq_getD_getElem?, Array.getElem?_setIfInBounds_ne (fun h => e h.symm)] at hl
          rw [Array.getD_eq_getD_getElem?]; exact hl
        have hjl : j < l.length := by rw [lnth_eq] at hq; exact (List.getElem?_eq_some_iff.1 hq).1
        have hold := st.new j q d u hl' hq hqd (by rw [← hag j hl' hjl]; exact hqv)
        cases hd : o.dst with
        | none => exact hold
        | some d' =>
          have hne : d' ≠ d := fun h => e (by subst h; exact nodupB_ne hnd hq hoi hqd hd)
          simp only [Act.put]
          rw [Array.getD_eq_getD_getElem?, Array.getElem?_setIfInBounds_ne hne, ← Array.getD_eq_getD_getElem?]; exact hold
  unfold wpOp
  rw [hoi']
  dsimp only
  cases hxe : x.eff with
  | false =>
    rw [hxe] at hstage
    simp only [Ob, hxe] at hob
    dsimp only at hstage
    rw [Bool.and_eq_true] at hstage
    have hlo : x.lo ≤ s := by
      have h1 := hstage.1
      cases hl : x.lo with
      | zero => omega
      | succ k =>
        rw [hl] at h1
        dsimp only at h1
        split at h1
        · rename_i p hp
          have := (st.eff k p hp).1 (hrT p h1)
          omega
        · cases h1
    have hhi : s ≤ x.lo + x.c := by
      have h1 := hstage.2
      split at h1
      · rw [Nat.eq_of_beq_eq_true h1]; exact st.le
      · rename_i p hp
        rcases Nat.lt_or_ge (x.lo + x.c) s with c | c
        · have hdone := (st.eff _ p hp).2 c
          have := shut_T st.shut _ p i h1 fun o' k ho' hk => st.shut p o' k hdone ho' hk
          rw [hnot'] at this; cases this
        · exact c
    have hso := Ob1_at hob hlo hhi g
    refine hso l.toArray hD Q hPn K a w hfrm st.sat ?_
    rintro v' L' w' ⟨hv', rfl⟩ s'
    refine fin v' g w' s (fun _ => hv') st.le (fun _ _ _ => rfl) ?_ s'
    intro k e hke
    rw [hset e, ← st.eff k e hke]
    constructor
    · rintro (h | h)
      · obtain ⟨o', x', ho', hx', hxe', _⟩ := chainOk_at hch hke
        rw [h, hx] at hx'; cases hx'; rw [hxe] at hxe'; cases hxe'
      · exact h
    · exact .inr
  | true =>
    rw [hxe] at hstage
    simp only [Ob, hxe] at hob
    dsimp only at hstage
    have hEi : lnth E x.lo = some i := by
      split at hstage
      · rename_i e he; rw [he, Nat.eq_of_beq_eq_true hstage]
      · cases hstage
    obtain ⟨o', x', ho', hx', _, _, hprev⟩ := chainOk_at hch hEi
    rw [hoi] at ho'; cases ho'
    have h1 : x.lo ≤ s := by
      cases hl : x.lo with
      | zero => omega
      | succ m =>
        obtain ⟨p, hp, hlp⟩ := hprev m (by rw [hl]; omega)
        have := (st.eff m p hp).1 (hrT p hlp)
        omega
    have h2 : s ≤ x.lo := by
      rcases Nat.lt_or_ge x.lo s with c | c
      · have := (st.eff _ _ hEi).2 c
        rw [hnot'] at this; cases this
      · exact c
    have hss : s = x.lo := Nat.le_antisymm h2 h1
    have hlt2 : x.lo < E.length := by
      have := hEi; rw [lnth_eq] at this
      exact (List.getElem?_eq_some_iff.1 this).1
    refine hob g l.toArray hD Q hPn K a w hfrm (by rw [← hss]; exact st.sat) ?_
    rintro v' L' w' ⟨g', hv', rfl, hag⟩ s'
    refine fin v' g' w' (x.lo + 1) hv' hlt2 ?_ ?_ s'
    · intro j hj hjl
      have hm := masks_at (l := l) (i := i) (k := 0) hjl
      rw [Nat.zero_add] at hm
      refine AgreeM_at hag (hm.trans ?_)
      have hne : Nat.beq j i = false := by
        cases e : Nat.beq j i with
        | false => rfl
        | true => rw [Nat.eq_of_beq_eq_true e, hnot'] at hj; cases hj
      have hnl : leansT l j i = false := by
        cases e : leansT l j i with
        | false => rfl
        | true =>
          have := shut_T st.shut _ j i e fun o' k ho' hk => st.shut j o' k hj ho' hk
          rw [hnot'] at this; cases this
      rw [hne, hnl]; rfl
    · intro k e hke
      rw [hset e]
      constructor
      · rintro (h | h)
        · subst h
          obtain ⟨_, x2, _, hx2, _, hlo2, _⟩ := chainOk_at hch hke
          rw [hx] at hx2; cases hx2; omega
        · have := (st.eff k e hke).1 h; omega
      · intro h
        rcases Nat.lt_or_ge k x.lo with c | c
        · exact .inr ((st.eff k e hke).2 (by omega))
        · have : k = x.lo := by omega
          subst this; rw [hEi] at hke; cases hke; exact .inl rfl
def cnt (listed : Array Bool) : Nat := (listed.toList.filter (!·)).length
theorem cnt_set {listed : Array Bool} {i : Nat} (hi : i < listed.size) (h : listed.getD i true = false) : cnt (listed.setIfInBounds i true) + 1 = cnt listed := by
  unfold cnt
  rw [Array.toList_setIfInBounds]
  have h' : listed.toList[i]? = some false := by
    rw [Array.getD_eq_getD_getElem?] at h
    rw [Array.getElem?_toList, Array.getElem?_eq_getElem hi] at *
    simpa using h
  generalize listed.toList = l at h'
  clear h hi
  induction l generalizing i with
  | nil => simp at h'
  | cons b l ih =>
    cases i with
    | zero => simp at h'; subst h'; simp
    | succ i =>
      simp at h'
      have := ih h'
      cases b <;> simp_all
theorem draw_any {γ : Type} {l : List Oper} {vs : γ → List Value} {f0 f1 : Frm} {q : Nat} {inf : List Inf} {E : List Nat} {Hs : γ → List (List HP)} (chk : drawOk l f0 f1 q inf E = true)
    (obl : Obs P n w0 D Hs l vs f0 0 l inf) (hdst : (dstsOf l).all (fun d => Nat.blt d n) = true)
    {Q : Exit → Act → World → Prop} (hPn : Pan n w0 Q) (hD : ∀ D' : List (Option Nat), D = some D' → ∀ j : Nat, (l.toArray[j]?).bind Oper.dst = (D'[j]?).join)
    (hQ : ∀ a w g, Fr n (allF f1 l (vs g)) a → Sat w0 (hAt (Hs g) E.length) w → Q .normal a w) :
    ∀ (m : Nat) (listed : Array Bool) (a : Act) (w : World) (s : Nat) (g : γ), listed.size = l.length → cnt listed = m → Stand P n w0 l vs f0 f1 q E Hs listed a w s g → wpAny P .any l.toArray Q m listed a w := by
  have hchk := chk
  simp only [drawOk, Bool.and_eq_true] at hchk
  obtain ⟨⟨⟨⟨⟨⟨hord, hnd⟩, hfr⟩, hch⟩, hst⟩, hfx⟩, hlate⟩ := hchk
  have full : ∀ {listed : Array Bool} {a : Act} {w : World} {s : Nat} {g : γ}, listed.size = l.length → (∀ i, i < l.length → listed.getD i false = true) → Stand P n w0 l vs f0 f1 q E Hs listed a w s g → Q .normal a w := by
    intro listed a w s g hsz hall st
    have hs : s = E.length := by
      refine Nat.le_antisymm st.le (Nat.le_of_not_lt fun hlt => ?_)
      have he : lnth E s = some E[s] := by rw [lnth_eq]; simp [hlt]
      obtain ⟨o, x, hoe, _⟩ := chainOk_at hch he
      have : E[s] < l.length := by rw [lnth_eq] at hoe; exact (List.getElem?_eq_some_iff.1 hoe).1
      have := (st.eff s _ he).1 (hall _ this)
      omega
    subst hs
    refine hQ a w g ⟨st.old.defers, st.old.size, fun t u h => ?_⟩ st.sat
    rcases allF_look h with h | ⟨j, o, hj, hd, hv⟩
    · exact st.old.slot t u h
    · exact st.new j o t u (hall j (by rw [lnth_eq] at hj; exact (List.getElem?_eq_some_iff.1 hj).1)) hj hd hv
  intro m
  induction m with
  | zero =>
    intro listed a w s g hsz hc st
    have hall : ∀ i, i < l.length → listed.getD i false = true := by
      intro i hi
      cases e : listed.getD i false with
      | true => rfl
      | false =>
        have : listed.getD i true = false := by
          rw [Array.getD_eq_getD_getElem?] at e ⊢
          rw [Array.getElem?_eq_getElem (by omega)] at e ⊢; exact e
        have := cnt_set (by omega) this
        omega
    refine ⟨?_, full hsz hall st⟩
    refine List.eq_nil_iff_forall_not_mem.2 fun i hi => ?_
    obtain ⟨h1, h2⟩ := ready_fresh hi
    have := hall i h1
    rw [Array.getD_eq_getD_getElem?] at this h2
    rw [Array.getElem?_eq_getElem (by omega)] at this h2
    simp only [Option.getD_some] at this h2
    rw [this] at h2; cases h2
  | succ m ih =>
    intro listed a w s g hsz hc st
    refine ⟨fun hnil => ?_, fun i hi => ?_⟩
    · -- the first that is not done is ready
      exfalso
      have hex : ∃ i, i < l.length ∧ listed.getD i false = false := by
        refine Classical.byContradiction fun hno => ?_
        have : cnt listed = 0 := by
          unfold cnt
          rw [List.length_eq_zero_iff, List.filter_eq_nil_iff]
          intro b hb
          obtain ⟨i, hi, e⟩ := List.getElem_of_mem hb
          have hi' : i < listed.size := by simpa using hi
          have h2 : listed.getD i false = true := by
            cases h : listed.getD i false with
            | true => rfl
            | false => exact absurd ⟨i, by omega, h⟩ hno
          rw [Array.getD_eq_getD_getElem?, Array.getElem?_eq_getElem hi'] at h2
          simp at h2 e
          rw [← e, h2]; simp
        omega
      obtain ⟨i, ⟨hi, hl⟩, hmin⟩ := least hex
      have : i ∈ Region.ready .any l.toArray listed := by
        unfold Region.ready
        rw [List.mem_filter]
        refine ⟨by simpa using hi, ?_⟩
        rw [Bool.and_eq_true]
        constructor
        · rw [Array.getD_eq_getD_getElem?] at hl ⊢
          rw [Array.getElem?_eq_getElem (by omega)] at hl ⊢
          simp at hl; simp [hl]
        · have hoi : lnth l i = some l[i] := by rw [lnth_eq]; simp [hi]
          rw [show l.toArray[i]? = some l[i] from by simp [hi]]
          simp only [Option.map_some, Option.getD_some]
          rw [Array.all_eq_true_iff_forall_mem]
          intro e he
          cases hb : Region.binds .any e with
          | false => rfl
          | true =>
            have hlt := ordOk_at l 0 i _ hord hoi e (by simpa using he) hb
            rw [Nat.zero_add] at hlt
            cases hle : listed.getD e.on false with
            | true => rfl
            | false => exact absurd (hmin e.on ⟨by omega, hle⟩) (by omega)
      rw [hnil] at this; cases this
    · refine Stand.step chk obl hdst hPn hD hsz st hi ?_
      intro a w s g st'
      obtain ⟨h1, h2⟩ := ready_fresh hi
      have := cnt_set (by omega) h2
      exact ih _ a w s g (by simpa using hsz) (by omega) st'
theorem WP.drawL {γ : Type} [Inhabited γ] {N : Cn} {X : Nat → Cn} {R : Cn} {f : Frm} {L : List HP} {r : Nat} {l : List Oper} (hm : P.follows .mixedOrders = true) (Dl : List (Option Nat)) (hDl : l.map Oper.dst = Dl)
    (f0 f1 : Frm) (q : Nat) (h0 : Holds f f0) (h1 : Holds f f1) (vs : γ → List Value) (inf : List Inf) (E : List Nat) (Hs : γ → List (List HP)) (hH : hAt (Hs default) 0 = L)
    (chk : drawOk l f0 f1 q inf E = true) (hdst : (dstsOf l).all (fun d => Nat.blt d n) = true) (obl : Obs P n w0 (some Dl) Hs l vs f0 0 l inf)
    (M : γ → List HP) (hM : ∀ g, hAt (Hs g) E.length = M g) (fr : γ → Frm) (hg : ∀ g, allF f1 l (vs g) = fr g) (k : ∀ g, N (fr g) (M g)) : WP P n w0 (.region r l.toArray true) N X R f L := by
  intro Q hE hn hx hr a w hfr s
  refine wp_region_any hm ?_
  have hD : ∀ D' : List (Option Nat), some Dl = some D' → ∀ j : Nat, (l.toArray[j]?).bind Oper.dst = (D'[j]?).join := fun D' e j => by
    cases e; subst hDl
    simp only [List.getElem?_toArray, List.getElem?_map]; cases l[j]? <;> rfl
  have hsz : (Array.replicate l.toArray.size false).size = l.length := by simp
  refine draw_any (D := some Dl) chk obl hdst hE hD ?_ l.toArray.size _ a _ 0 default hsz ?_ ?_
  · intro a w g fr' s
    rw [hM] at s
    exact hn a w _ _ (k g) (hg g ▸ fr') s
  · simp [cnt]
  · have hno : ∀ j : Nat, (Array.replicate l.toArray.size false).getD j false = false := fun j => by
      rw [Array.getD_eq_getD_getElem?, Array.getElem?_replicate]; split <;> rfl
    refine ⟨Nat.zero_le _, fun k e _ => ?_, hfr.sub h1.sub, fun _ => hfr.sub h0.sub, fun j o d v h => ?_, fun j o k h => ?_, by rw [hH]; exact s.drew⟩
    · rw [hno]; simp
    · rw [hno] at h; cases h
    · rw [hno] at h; cases h
theorem WP.draw {γ : Type} [Inhabited γ] {N : Cn} {X : Nat → Cn} {R : Cn} {f : Frm} {L : List HP} {r : Nat} {l : List Oper} (hm : P.follows .mixedOrders = true) (Dl : List (Option Nat)) (hDl : l.map Oper.dst = Dl)
    (f0 : Frm) (h0 : Holds f f0) (vs : γ → List Value) (inf : List Inf) (E : List Nat) (Hs : γ → List (List HP)) (hH : hAt (Hs default) 0 = L)
    (chk : drawOk l f0 f0 l.length inf E = true) (hdst : (dstsOf l).all (fun d => Nat.blt d n) = true) (obl : Obs P n w0 (some Dl) Hs l vs f0 0 l inf)
    (M : γ → List HP) (hM : ∀ g, hAt (Hs g) E.length = M g) (fr : γ → Frm) (hg : ∀ g, allF f0 l (vs g) = fr g) (k : ∀ g, N (fr g) (M g)) : WP P n w0 (.region r l.toArray true) N X R f L :=
  WP.drawL hm Dl hDl f0 f0 l.length h0 h0 vs inf E Hs hH chk hdst obl M hM fr hg k
theorem AgreeM_refl : ∀ (m : List Bool) (as : List Value), m.length = as.length → AgreeM m as as := by
  intro m
  induction m with
  | nil => intro as h; cases as with
    | nil => exact trivial
    | cons _ _ => cases h
  | cons b m ih =>
    intro as h
    cases as with
    | nil => cases h
    | cons a as => cases b with
      | true => exact ⟨rfl, ih as (by simpa using h)⟩
      | false => exact ih as (by simpa using h)
theorem SO.at {f : Frm} {L M : List HP} {o : Oper} {v : Value} {i : Nat} {vs : List Value} (h : SO P n w0 D f L o (fun v' L' => v' = v ∧ L' = L)) (e : lnth vs i = some v) (eM : L = M) :
    SO P n w0 D f L o (fun v' L' => lnth vs i = some v' ∧ L' = M) :=
  fun ops hD Q hE K a w fr s hK => h ops hD Q hE K a w fr s (fun v' L' w' ⟨a, b⟩ s' => hK v' L' w' ⟨by rw [a]; exact e, b.trans eM⟩ s')
theorem SO.eff {f : Frm} {L : List HP} {o : Oper} {S S' : Value → List HP → Prop} (h : EO P n w0 f L o S) (hg : o.guard = none) (k : ∀ v L', S v L' → S' v L') : SO P n w0 D f L o S' := SO.of hg (h.mono k)
/-- Of two heaps' parts one more, that is empty. -/
theorem sep_snoc_emp (L : List HP) {A : HP} (h : A = emp) : sep L = sep (L ++ [A]) := by
  rw [h, sep_append, sep_one, star_emp]
/-- Rounds that are counted. -/
def WPR (P : Program) (n : Fs) (w0 : Ctx) (k : Nat) (c : Code) (X : Nat → Cn) (R : Cn) (f : Frm) (L : List HP) : Prop :=
  ∀ Q : Exit → Act → World → Prop, Pan n w0 Q → (∀ i a w f L, X i f L → Fr n f a → Sat w0 L w → Q (.exit i) a w) → (∀ a w f L, R f L → Fr n f a → Sat w0 L w → Q .ret a w) →
      ∀ a w, Fr n f a → Sat w0 L w → Code.rounds P c Q k a w
theorem WP.rounds {N : Cn} {X : Nat → Cn} {R : Cn} {f : Frm} {L : List HP} {c : Code} (k : Nat) (h : WPR P n w0 k c X R f L) : WP P n w0 (.loop c) N X R f L :=
  fun Q hE _ hx hr a w fr s => wp_loop_rounds k (h Q hE hx hr a w fr s)
theorem WPR.succ {X : Nat → Cn} {R : Cn} {f : Frm} {L : List HP} {c : Code} {k : Nat} (h : WP P n w0 c (fun f L => WPR P n w0 k c X R f L) X R f L) : WPR P n w0 (k + 1) c X R f L :=
  fun Q hE hx hr a w fr s => h (Exit.then (Code.rounds P c Q k) Q) hE (fun a w f L q fr s => q Q hE hx hr a w fr s) hx hr a w fr s
end proofs
end Go.Proofs.YtlnionilhagenaaGreatDoor
