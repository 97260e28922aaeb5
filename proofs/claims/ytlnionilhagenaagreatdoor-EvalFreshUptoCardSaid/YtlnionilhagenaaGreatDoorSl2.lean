/- The walk's judgements: operations, code, calls. -/
import Derived.Test.YtlnionilhagenaaGreatDoorSl1
namespace Go.Proofs.YtlnionilhagenaaGreatDoor
open Go.RowKit
set_option linter.all false

abbrev Cn := Frm → List HP → Prop
section
variable (P : Program) (n : Fs) (w0 : Ctx)
/-- An operation that comes to a value and leaves the world alone. -/
def PO (f : Frm) (L : List HP) (o : Oper) (v : Value) : Prop :=
  ∀ a w, Fr n f a → Sat w0 L w → (execOp a.eval o).run P w = .ok (.value v) w
/-- Where it panics. -/
def Pan (Q : Exit → Act → World → Prop) : Prop := ∀ v f a w L, w0.E v f L → Fr n f a → Sat w0 L w → Q (.panic [{ v := v, recovered := false }]) a w
/-- An operation, whatever it does: the values that it may come to, the heap behind it. -/
def EO (f : Frm) (L : List HP) (o : Oper) (S : Value → List HP → Prop) : Prop :=
  ∀ Q : Exit → Act → World → Prop, Pan n w0 Q → ∀ (K : Act → World → Prop) a w, Fr n f a → Sat w0 L w →
    (∀ v L' w', S v L' → Sat w0 L' w' → K (a.put o.dst v) w') → o.wp P a w K Q ∨ (o.asks P a w ∧ LetsOut Q)
/-- One step of a region: the operation, or that its guard leaves it. -/
def SO (D : Option (List (Option Nat))) (f : Frm) (L : List HP) (o : Oper) (S : Value → List HP → Prop) : Prop :=
  ∀ ops : Array Oper, (∀ D' : List (Option Nat), D = some D' → ∀ j : Nat, (ops[j]?).bind Oper.dst = (D'[j]?).join) →
    ∀ Q : Exit → Act → World → Prop, Pan n w0 Q → ∀ (K : Act → World → Prop) a w, Fr n f a → Sat w0 L w →
      (∀ v L' w', S v L' → Sat w0 L' w' → K (a.put o.dst v) w') →
      if Region.wanted o (yielded ops a.tmps) then o.wp P a w K Q ∨ (o.asks P a w ∧ LetsOut Q) else K (a.put o.dst undef) w
def WO (D : Option (List (Option Nat))) (rest : List Oper) (N : Cn) (f : Frm) (L : List HP) : Prop :=
  ∀ ops : Array Oper, (∀ D' : List (Option Nat), D = some D' → ∀ j : Nat, (ops[j]?).bind Oper.dst = (D'[j]?).join) →
    ∀ Q : Exit → Act → World → Prop, Pan n w0 Q → (∀ a w f L, N f L → Fr n f a → Sat w0 L w → Q .normal a w) →
      ∀ a w, Fr n f a → Sat w0 L w → wpList P ops Q rest a w
def WP (c : Code) (N : Cn) (X : Nat → Cn) (R : Cn) (f : Frm) (L : List HP) : Prop :=
  ∀ Q : Exit → Act → World → Prop, Pan n w0 Q → (∀ a w f L, N f L → Fr n f a → Sat w0 L w → Q .normal a w) →
    (∀ i a w f L, X i f L → Fr n f a → Sat w0 L w → Q (.exit i) a w) → (∀ a w f L, R f L → Fr n f a → Sat w0 L w → Q .ret a w) →
      ∀ a w, Fr n f a → Sat w0 L w → c.wp P Q a w
end
def inX (j : Nat) (N : Cn) (X : Nat → Cn) : Nat → Cn := fun i => bif Nat.beq i j then N else X i
def noX : Nat → Cn := fun _ _ _ => False
def noN : Cn := fun _ _ => False

section
variable {P : Program} {n : Fs} {w0 : Ctx} {N : Cn} {X : Nat → Cn} {R : Cn} {f : Frm} {L : List HP} {D : Option (List (Option Nat))} {rest : List Oper}
theorem WP.skip (h : N f L) : WP P n w0 .skip N X R f L := fun _ _ hn _ _ a w fr s => wp_skip (hn a w f L h fr s)
theorem WP.ret (h : R f L) : WP P n w0 .ret N X R f L := fun _ _ _ _ hr a w fr s => wp_ret (hr a w f L h fr s)
theorem WP.exit {i : Nat} (h : X i f L) : WP P n w0 (.exit i) N X R f L := fun _ _ _ hx _ a w fr s => wp_exit (hx i a w f L h fr s)
theorem inX.hit {j : Nat} (h : N f L) : inX j N X j f L := by unfold inX; rw [Nat.beq_refl]; exact h
theorem inX.miss {i j : Nat} (hi : Nat.beq i j = false) (h : X i f L) : inX j N X i f L := by unfold inX; rw [hi]; exact h
theorem WP.seq {x y : Code} (h : WP P n w0 x (fun f L => WP P n w0 y N X R f L) X R f L) : WP P n w0 (.seq x y) N X R f L :=
  fun Q hE hn hx hr a w fr s => wp_seq (h (Exit.then (y.wp P Q) Q) hE (fun a w f L k fr s => k Q hE hn hx hr a w fr s) hx hr a w fr s)
theorem WP.cond {c : Operand} {x y : Code} {t : Bool} (hc : ev f c = some (.bool t)) (ht : t = true → WP P n w0 x N X R f L) (hf : t = false → WP P n w0 y N X R f L) :
    WP P n w0 (.cond c x y) N X R f L := fun Q hE hn hx hr a w fr s => wp_cond (fr.ev hc) (by
      cases t with
      | true => exact ht rfl Q hE hn hx hr a w fr s
      | false => exact hf rfl Q hE hn hx hr a w fr s)
theorem WP.condT {c : Operand} {x y : Code} (hc : ev f c = some (.bool true)) (h : WP P n w0 x N X R f L) : WP P n w0 (.cond c x y) N X R f L :=
  WP.cond hc (fun _ => h) (fun e => nomatch e)
theorem WP.condF {c : Operand} {x y : Code} (hc : ev f c = some (.bool false)) (h : WP P n w0 y N X R f L) : WP P n w0 (.cond c x y) N X R f L :=
  WP.cond hc (fun e => nomatch e) (fun _ => h)
theorem WP.block {j : Nat} {c : Code} (h : WP P n w0 c N (inX j N X) R f L) : WP P n w0 (.block j c) N X R f L :=
  fun Q hE hn hx hr a w fr s => wp_block (h (Exit.inBlock j Q) hE hn (fun i a w f L k fr s => by
    unfold inX at k
    cases b : Nat.beq i j with
    | true => rw [b] at k; simp only [Exit.inBlock, Nat.eq_of_beq_eq_true b, if_true]; exact hn a w f L k fr s
    | false =>
      rw [b] at k
      have : ¬ i = j := fun e => by rw [e, Nat.beq_refl] at b; cases b
      simp only [Exit.inBlock, this, if_false]; exact hx i a w f L k fr s) hr a w fr s)
theorem WP.scope {c : Code} (h : ∀ Q a w, c.wp P Q a w → (Code.scope c).wp P Q a w) (k : WP P n w0 c N X R f L) : WP P n w0 (.scope c) N X R f L :=
  fun Q hE hn hx hr a w fr s => h Q a w (k Q hE hn hx hr a w fr s)
theorem WP.region {i : Nat} {l : List Oper} (h : WO P n w0 none l N f L) : WP P n w0 (.region i l.toArray false) N X R f L :=
  fun Q hE hn _ _ a w fr s => wp_region_lit (h l.toArray (fun _ e => nomatch e) Q hE hn a w fr s)
theorem WP.regionG {i : Nat} {l : List Oper} {D : List (Option Nat)} (hD : l.map Oper.dst = D) (h : WO P n w0 (some D) l N f L) :
    WP P n w0 (.region i l.toArray false) N X R f L :=
  fun Q hE hn _ _ a w fr s => wp_region_lit (h l.toArray (fun D' e j => by
    cases e; subst hD
    simp only [List.getElem?_toArray, List.getElem?_map]; cases l[j]? <;> rfl) Q hE hn a w fr s)
/-- The frame, of which some slots alone are kept. -/
theorem WP.keep {c : Code} (g : Frm) (h : Holds f g) (k : WP P n w0 c N X R g L) : WP P n w0 c N X R f L :=
  fun Q hE hn hx hr a w fr s => k Q hE hn hx hr a w (fr.sub h.sub) s
theorem WP.heap {c : Code} (M : List HP) (h : ∀ w, Sat w0 L w → Sat w0 M w) (k : WP P n w0 c N X R f M) : WP P n w0 c N X R f L :=
  fun Q hE hn hx hr a w fr s => k Q hE hn hx hr a w fr (h w s)
theorem WP.of_ex {α : Type} {c : Code} {i : Nat} {A : α → HP} (e : L[i]? = some (ex A)) (k : ∀ x, WP P n w0 c N X R f (L.set i (A x))) : WP P n w0 c N X R f L :=
  fun Q hE hn hx hr a w fr s => by
    obtain ⟨b, h, q, hs⟩ := s
    rw [sep_pick e, star_ex] at hs
    obtain ⟨x, hs⟩ := hs
    exact k x Q hE hn hx hr a w fr ⟨b, h, q, by rw [sep_set _ e]; exact hs⟩
theorem WP.mono {c : Code} {N' : Cn} {X' : Nat → Cn} {R' : Cn} (h : WP P n w0 c N X R f L) (hN : ∀ f L, N f L → N' f L) (hX : ∀ i f L, X i f L → X' i f L) (hR : ∀ f L, R f L → R' f L) :
    WP P n w0 c N' X' R' f L :=
  fun Q hE hn hx hr a w fr s => h Q hE (fun a w f L q => hn a w f L (hN f L q)) (fun i a w f L q => hx i a w f L (hX i f L q)) (fun a w f L q => hr a w f L (hR f L q)) a w fr s

theorem least {J : Nat → Prop} (h : ∃ k, J k) : ∃ k, J k ∧ ∀ j, J j → k ≤ j := by
  obtain ⟨k, hk⟩ := h
  induction k using Nat.strongRecOn with
  | _ k ih =>
    by_cases q : ∃ j, j < k ∧ J j
    · obtain ⟨j, hj, hJ⟩ := q; exact ih j hj hJ
    · exact ⟨k, hk, fun j hJ => Nat.le_of_not_lt fun hlt => q ⟨j, hlt, hJ⟩⟩
/-- A loop: what holds at the head, by a number that each round lowers. -/
theorem WP.loop {c : Code} (I : Nat → Cn) (k0 : Nat) (h0 : I k0 f L)
    (round : ∀ k f L, I k f L → WP P n w0 c (fun f L => ∃ k', k' < k ∧ I k' f L) X R f L) : WP P n w0 (.loop c) N X R f L := by
  intro Q hE hn hx hr a w fr s
  let J : Nat → Act → World → Prop := fun k a w => ∃ f L, I k f L ∧ Fr n f a ∧ Sat w0 L w
  have hex : ∃ k, J k a w := ⟨k0, f, L, h0, fr, s⟩
  classical
  let μ : Act → World → Nat := fun a w => if h : ∃ k, J k a w then Classical.choose (least h) else 0
  refine wp_loop (fun a w => ∃ k, J k a w) μ hex ?_
  intro a w hk
  have hμ : μ a w = Classical.choose (least hk) := by simp only [μ]; rw [dif_pos hk]
  obtain ⟨⟨f, L, hI, fr, s⟩, _⟩ := Classical.choose_spec (least hk)
  refine round _ f L hI (Exit.then (fun a' w' => (∃ k, J k a' w') ∧ μ a' w' < μ a w) Q) hE ?_ hx hr a w fr s
  rintro a' w' f' L' ⟨k', hlt, hI'⟩ fr' s'
  have hk' : ∃ k, J k a' w' := ⟨k', f', L', hI', fr', s'⟩
  refine ⟨hk', ?_⟩
  have : μ a' w' = Classical.choose (least hk') := by simp only [μ]; rw [dif_pos hk']
  rw [this, hμ]
  exact Nat.lt_of_le_of_lt ((Classical.choose_spec (least hk')).2 _ ⟨f', L', hI', fr', s'⟩) hlt

/-! ## Lists of operations -/
theorem WO.nil (h : N f L) : WO P n w0 D [] N f L := fun _ _ _ _ hn a w fr s => wpList_nil (hn a w f L h fr s)
def putF (d : Option Nat) (v : Value) (f : Frm) : Frm := match d with
  | some d => (d, v) :: f
  | none => f
def dstOk (n : Fs) : Option Nat → Bool
  | some d => Nat.blt d n.n
  | none => true
theorem Fr.putF {a : Act} (h : Fr n f a) {d : Option Nat} (hd : dstOk n d = true) (v : Value) : Fr n (putF d v f) (a.put d v) := by
  cases d with
  | none => exact h
  | some d => exact h.put (by simpa [dstOk, Nat.blt_eq] using hd) v
theorem SO.of {o : Oper} {S : Value → List HP → Prop} (hg : o.guard = none) (h : EO P n w0 f L o S) : SO P n w0 D f L o S :=
  fun ops _ Q hE K a w fr s hK => by
    rw [if_pos (by simp [Region.wanted, hg])]
    exact h Q hE K a w fr s hK
theorem WO.step {o : Oper} {S : Value → List HP → Prop} (h : SO P n w0 D f L o S) (hn : dstOk n o.dst = true) (k : ∀ v L', S v L' → WO P n w0 D rest N (putF o.dst v f) L') :
    WO P n w0 D (o :: rest) N f L :=
  fun ops hD Q hE hN a w fr s => by
    have := h ops hD Q hE (wpList P ops Q rest) a w fr s (fun v L' w' hS s' => k v L' hS ops hD Q hE hN _ _ (fr.putF hn v) s')
    unfold wpList
    exact this
theorem PO.eo {o : Oper} {v : Value} (h : PO P n w0 f L o v) : EO P n w0 f L o (fun v' L' => v' = v ∧ L' = L) :=
  fun Q _ K a w fr s hK => .inl (by
    unfold Oper.wp
    rw [h a w fr s]
    exact hK v L w ⟨rfl, rfl⟩ s)
theorem WO.val {d : Nat} {p : Op} {ty : TypeId} {pos : String} {af : Array Edge} {v : Value} (h : PO P n w0 f L ⟨some d, p, ty, pos, af, none⟩ v) (hn : Nat.blt d n = true)
    (k : WO P n w0 D rest N ((d, v) :: f) L) : WO P n w0 D (⟨some d, p, ty, pos, af, none⟩ :: rest) N f L :=
  WO.step (SO.of rfl h.eo) hn (fun v' L' ⟨e, e'⟩ => by subst e; subst e'; exact k)

/-! ## Calls -/
/-- What a call does to a part of the heap, whatever the rest of it is. -/
def Tri (P : Program) (g : FuncId) (args : Array Value) (A : List HP) (R : Value → List HP → Prop) : Prop :=
  ∀ (w0 : World) (F : HP) (w : World), Sat w0 (A ++ [F]) w → Calls P g args w fun
    | .returned v, w' => ∃ B, R v B ∧ Sat w0 (B ++ [F]) w'
    | .panicked _, _ => False
    | .outgrown, _ => False
theorem Tri.mono {g : FuncId} {args : Array Value} {A : List HP} {R R' : Value → List HP → Prop} (h : Tri P g args A R) (k : ∀ v B, R v B → R' v B) : Tri P g args A R' :=
  fun w0 F w s => (h w0 F w s).mono fun e w' q => match e, q with
    | .returned _, ⟨B, r, s⟩ => ⟨B, k _ _ r, s⟩
    | .outgrown, q => q.elim
def Res (P : Program) (n : Fs) (w0 : Ctx) (rs : Array ResultVar) (f : Frm) (L : List HP) (v : Value) : Prop :=
  ∀ a w fn, fn.results = rs → Fr n f a → Sat w0 L w → (results fn a.tmps).run P w = .ok v w
/-- The frame that a call begins with. -/
def argF : Nat → List Value → Frm
  | _, [] => []
  | i, v :: vs => (i, v) :: argF (i + 1) vs
theorem argF_look : ∀ (vs : List Value) (i j : Nat) (v : Value), look (argF i vs) j = some v → i ≤ j ∧ vs[j - i]? = some v := by
  intro vs
  induction vs with
  | nil => intro i j v h; cases h
  | cons u vs ih =>
    intro i j v h
    simp only [argF, look] at h
    cases e : Nat.beq i j with
    | true =>
      rw [e] at h; cases Nat.eq_of_beq_eq_true e; simp at h; subst h; simp
    | false =>
      rw [e] at h
      obtain ⟨h1, h2⟩ := ih (i + 1) j v h
      refine ⟨by omega, ?_⟩
      rw [show j - i = (j - (i + 1)) + 1 from by omega]; simpa using h2
/-- Where a walk ends: the results, the part of the heap, and the rest. -/
def Done (P : Program) (m : Fs) (rs : Array ResultVar) (R : Value → List HP → Prop) (F : HP) (w0 : Ctx) : Cn := fun f L =>
  ∃ v B G, Res P m w0 rs f L v ∧ R v B ∧ ∀ w, Sat w0 L w → Sat w0 (B ++ F :: G) w
theorem Tri.of {g : FuncId} {fn : Func} {c : Code} {args : Array Value} {A : List HP} {R : Value → List HP → Prop} {f0 : Frm} {m : Nat} {rs : Array ResultVar}
    (hf : P.funcs[g]? = some fn) (hb : fn.body = some c) (hm : fn.ntmps = m) (hrs : fn.results = rs)
    (hargs : ∀ i v, look f0 i = some v → args[i]? = some v) (hs : args.size ≤ m)
    (h : ∀ (w0 : Ctx) F, WP P ⟨m, []⟩ w0 c (Done P ⟨m, []⟩ rs R F w0) noX (Done P ⟨m, []⟩ rs R F w0) f0 (A ++ [F])) :
    Tri P g args A R := by
  intro w0 F w s
  have cut : ∀ B G w, Sat w0 (B ++ F :: G) w → Sat w0 (B ++ [F]) w := by
    intro B G w s
    have : Sat w0 (G ++ (B ++ [F])) w := s.perm (by
      have : (B ++ F :: G) = (B ++ [F]) ++ G := by simp
      rw [this]; exact List.perm_append_comm)
    clear s
    induction G with
    | nil => exact this
    | cons g G ih => exact ih this.cut
  refine calls_of_wp hf hb (h ⟨w0, fun _ _ _ => False⟩ F _ (fun _ _ _ _ _ x => x.elim) ?_ (fun _ _ _ _ _ x => x.elim) ?_ _ _ ?_ s)
  · rintro a w f L ⟨v, B, G, hres, hr, hi⟩ fr s
    exact ⟨fr.defers, v, hres a w fn hrs fr s, B, hr, cut B G w (hi w s)⟩
  · rintro a w f L ⟨v, B, G, hres, hr, hi⟩ fr s
    exact ⟨fr.defers, v, hres a w fn hrs fr s, B, hr, cut B G w (hi w s)⟩
  · refine ⟨rfl, by simp [hm]; omega, fun i v e => ?_⟩
    have := hargs i v e
    have hi : i < args.size := by
      rcases Nat.lt_or_ge i args.size with q | q
      · exact q
      · rw [Array.getElem?_eq_none q] at this; cases this
    rw [Array.getD_eq_getD_getElem?, Array.getElem?_append_left hi, this]; rfl
/-- A call. -/
theorem EO.call {g : FuncId} {d : Option Nat} {x : Op} {ty : TypeId} {pos : String} {af : Array Edge} {gd : Option (Nat × Bool)} {args : Array Value} {A : List HP} {R : Value → List HP → Prop} (F : HP)
    (hx : ∀ a w, Fr n f a → Sat w0 L w → (execOp a.eval ⟨d, x, ty, pos, af, gd⟩).run P w = .ok (.enter g args) w)
    (ht : Tri P g args A R) (hl : sep L = sep (A ++ [F])) :
    EO P n w0 f L ⟨d, x, ty, pos, af, gd⟩ (fun v L' => ∃ B, R v B ∧ L' = B ++ [F]) := by
  intro Q hE K a w fr s hK
  left
  unfold Oper.wp
  rw [hx a w fr s, Oper.upon_enter]
  refine (ht w0 F w (s.eq hl)).mono ?_
  intro e w' q
  cases e with
  | returned v =>
    obtain ⟨B, r, s'⟩ := q
    exact hK v _ _ ⟨B, r, rfl⟩ s'
  | panicked _ => exact q.elim
  | outgrown => exact q.elim
theorem TriL.of {g : FuncId} {fn : Func} {c : Code} {args : List Value} {A : List HP} {R : Value → List HP → Prop} {m : Nat} {rs : Array ResultVar}
    (hf : P.funcs[g]? = some fn) (hb : fn.body = some c) (hm : fn.ntmps = m) (hrs : fn.results = rs) (hs : Nat.ble args.length m = true)
    (h : ∀ (w0 : Ctx) F, WP P ⟨m, []⟩ w0 c (Done P ⟨m, []⟩ rs R F w0) noX (Done P ⟨m, []⟩ rs R F w0) (argF 0 args) (A ++ [F])) : Tri P g args.toArray A R :=
  Tri.of hf hb hm hrs (fun i v e => by have := argF_look args 0 i v e; simpa using this.2) (by have := Nat.le_of_ble_eq_true hs; simpa using this) h
end
end Go.Proofs.YtlnionilhagenaaGreatDoor
