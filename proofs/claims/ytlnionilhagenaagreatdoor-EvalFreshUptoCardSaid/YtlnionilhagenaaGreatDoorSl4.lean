/- Operations that change the heap, and calls. -/
import Derived.Test.YtlnionilhagenaaGreatDoorSl3
namespace Go.Proofs.YtlnionilhagenaaGreatDoor
open Go.RowKit
set_option linter.all false

abbrev nth (L : List HP) (i : Nat) : Option HP := lnth L i
def setN : List HP → Nat → HP → List HP
  | [], _, _ => []
  | _ :: L, 0, B => B :: L
  | A :: L, i + 1, B => A :: setN L i B
def delN : List HP → Nat → List HP
  | [], _ => []
  | _ :: L, 0 => L
  | A :: L, i + 1 => A :: delN L i
theorem nth_eq (L : List HP) (i : Nat) : nth L i = L[i]? := lnth_eq L i
theorem setN_eq (L : List HP) (i : Nat) (B : HP) : setN L i B = L.set i B := by
  induction L generalizing i with
  | nil => rfl
  | cons A L ih => cases i with
    | zero => rfl
    | succ i => simp [setN, ih]
theorem delN_eq (L : List HP) (i : Nat) : delN L i = L.eraseIdx i := by
  induction L generalizing i with
  | nil => rfl
  | cons A L ih => cases i with
    | zero => rfl
    | succ i => simp [delN, ih]
theorem sep_nth {L : List HP} {i : Nat} {A : HP} (h : nth L i = some A) : sep L = star A (sep (delN L i)) := by
  rw [delN_eq]; exact sep_pick (by rw [← nth_eq]; exact h)
theorem setN_self {L : List HP} {i : Nat} {A : HP} (h : nth L i = some A) : setN L i A = L := by
  rw [setN_eq]
  have : L[i]? = some A := by rw [← nth_eq]; exact h
  obtain ⟨hi, e⟩ := List.getElem?_eq_some_iff.1 this
  rw [← e]; exact List.set_getElem_self hi
theorem sep_setN {L : List HP} {i : Nat} {A : HP} (B : HP) (h : nth L i = some A) : sep (setN L i B) = star B (sep (delN L i)) := by
  rw [delN_eq, setN_eq]; exact sep_set B (by rw [← nth_eq]; exact h)
def evs (f : Frm) : List Operand → Option (List Value)
  | [] => some []
  | x :: xs => match ev f x, evs f xs with
    | some v, some vs => some (v :: vs)
    | _, _ => none
theorem Fr.evs {n : Fs} {f : Frm} {a : Act} (h : Fr n f a) : ∀ {xs : List Operand} {vs : List Value}, evs f xs = some vs → xs.map a.eval = vs := by
  intro xs
  induction xs with
  | nil => intro vs e; simp [Proofs.YtlnionilhagenaaGreatDoor.evs] at e; subst e; rfl
  | cons x xs ih =>
    intro vs e
    simp only [Proofs.YtlnionilhagenaaGreatDoor.evs] at e
    split at e
    · rename_i v us e1 e2
      cases e
      rw [List.map_cons, h.ev e1, ih e2]
    · cases e
def isCell : Value → Bool
  | .agg _ | .tuple _ => false
  | _ => true
def allCell : List Value → Bool
  | [] => true
  | v :: vs => bif isCell v then allCell vs else false
theorem allCell_mem : ∀ {vs : List Value}, allCell vs = true → ∀ v ∈ vs, isCell v = true := by
  intro vs
  induction vs with
  | nil => intro _ v h; cases h
  | cons u vs ih =>
    intro h v hv
    simp only [allCell] at h
    cases e : isCell u with
    | false => rw [e] at h; cases h
    | true =>
      rw [e] at h
      cases hv with
      | head => exact e
      | tail _ hm => exact ih h v hm
theorem isCell.cells {v : Value} (h : isCell v = true) : v.cells = #[v] := by cases v <;> first | rfl | cases h
theorem run_store_cell {P : Program} {w : World} {a : Addr} {v : Value} (h : isCell v = true) (hc : (w.cell? a).isSome = true) (hf : w.frozen? a = false) :
    (Go.store a v).run P w = .ok () (w.setCell a v) := by
  obtain ⟨u, hu⟩ := Option.isSome_iff_exists.mp hc
  unfold Go.store
  cases v <;> first | (simp [Sem.run, hu, hf]; done) | cases h
theorem setCell_eq {w : World} {b o : Nat} {cs : Array Value} {T : TypeId} {fz : Nat × Nat} (h : w.heap[b]? = some (.cells cs T fz)) (v : Value) :
    w.setCell ⟨b, o, none⟩ v = { w with heap := w.heap.setIfInBounds b (.cells (cs.setIfInBounds o v) T fz) } := by
  unfold World.setCell
  congr 1
  apply Array.ext_getElem?
  intro i
  rw [Array.getElem?_modify, Array.getElem?_setIfInBounds]
  have hlt : b < w.heap.size := by
    rcases Nat.lt_or_ge b w.heap.size with q | q
    · exact q
    · simp [Array.getElem?_eq_none q] at h
  by_cases e : b = i
  · subst e; rw [if_pos rfl, if_pos rfl, h, if_pos hlt]; rfl
  · rw [if_neg e, if_neg e]
/-- Cells, from a place on, by others. -/
def putFrom (cs : Array Value) (o : Nat) : List Value → Array Value
  | [] => cs
  | v :: vs => putFrom (cs.setIfInBounds o v) (o + 1) vs
def putL : List Value → Nat → List Value → List Value
  | [], _, _ => []
  | c :: cs, 0, [] => c :: cs
  | _ :: cs, 0, v :: vs => v :: putL cs 0 vs
  | c :: cs, o + 1, vs => c :: putL cs o vs
theorem putL_nil : ∀ (cs : List Value) (o : Nat), putL cs o [] = cs := by
  intro cs
  induction cs with
  | nil => intro o; cases o <;> rfl
  | cons c cs ih => intro o; cases o with
    | zero => rfl
    | succ o => simp [putL, ih]
theorem putL_set : ∀ (cs : List Value) (o : Nat) (v : Value) (vs : List Value), putL (cs.set o v) (o + 1) vs = putL cs o (v :: vs) := by
  intro cs
  induction cs with
  | nil => intro o v vs; cases o <;> rfl
  | cons c cs ih => intro o v vs; cases o with
    | zero => rfl
    | succ o => simp [putL, ih]
theorem putFrom_eq : ∀ (vs : List Value) (cs : Array Value) (o : Nat), putFrom cs o vs = (putL cs.toList o vs).toArray := by
  intro vs
  induction vs with
  | nil => intro cs o; simp [putFrom, putL_nil]
  | cons v vs ih => intro cs o; rw [putFrom, ih, ← putL_set]; simp

section
variable {P : Program} {n : Fs} {w0 : Ctx} {N : Cn} {f : Frm} {L : List HP} {D : Option (List (Option Nat))} {rest : List Oper}
  {ty : TypeId} {pos : String} {af : Array Edge} {g : Option (Nat × Bool)}
theorem WO.toL (M : List HP) (h : L = M) (k : WO P n w0 D rest N f M) : WO P n w0 D rest N f L := h ▸ k
theorem WP.toL {c : Code} {X : Nat → Cn} {R : Cn} (M : List HP) (h : L = M) (k : WP P n w0 c N X R f M) : WP P n w0 c N X R f L := h ▸ k
theorem WO.sepEq (M : List HP) (h : sep L = sep M) (k : WO P n w0 D rest N f M) : WO P n w0 D rest N f L :=
  fun ops hD Q hE hN a w fr s => k ops hD Q hE hN a w fr (s.eq h)
theorem WP.sepEq {c : Code} {X : Nat → Cn} {R : Cn} (M : List HP) (h : sep L = sep M) (k : WP P n w0 c N X R f M) : WP P n w0 c N X R f L :=
  fun Q hE hN hX hR a w fr s => k Q hE hN hX hR a w fr (s.eq h)
theorem WO.keep (g : Frm) (h : Holds f g) (k : WO P n w0 D rest N g L) : WO P n w0 D rest N f L :=
  fun ops hD Q hE hN a w fr s => k ops hD Q hE hN a w (fr.sub h.sub) s
/-- An operation that comes to a value, and leaves what is known of the heap. -/
def VO (P : Program) (n : Fs) (w0 : Ctx) (f : Frm) (L : List HP) (o : Oper) (v : Value) : Prop :=
  EO P n w0 f L o fun v' L' => v' = v ∧ L' = L
theorem PO.vo {o : Oper} {v : Value} (h : PO P n w0 f L o v) : VO P n w0 f L o v := h.eo
theorem WO.vo {d : Nat} {p : Op} {v : Value} (h : VO P n w0 f L ⟨some d, p, ty, pos, af, none⟩ v) (hn : Nat.blt d n = true) (k : WO P n w0 D rest N ((d, v) :: f) L) :
    WO P n w0 D (⟨some d, p, ty, pos, af, none⟩ :: rest) N f L := WO.step (SO.of rfl h) hn (fun v' L' ⟨e, e'⟩ => by subst e; subst e'; exact k)
def asB : Value → Option Bool
  | .bool b => some b
  | _ => none
theorem yielded_of {ops : Array Oper} {Dl : List (Option Nat)} {g t : Nat} {a : Act} {v : Value} (hD : ∀ j : Nat, (ops[j]?).bind Oper.dst = (Dl[j]?).join) (hg : lnth Dl g = some (some t)) (fr : Fr n f a) (hl : look f t = some v) :
    yielded ops a.tmps g = asB v := by
  have h1 := hD g
  rw [← lnth_eq, hg] at h1
  have h2 := fr.slot t _ hl
  unfold yielded
  rw [show (ops[g]?).bind Oper.dst = some t from h1]
  rw [Array.getD_eq_getD_getElem?] at h2
  simp only [Option.bind_some]
  cases e : a.tmps[t]? with
  | none => rw [e] at h2; simp at h2; subst h2; rfl
  | some u => rw [e] at h2; simp at h2; subst h2; cases u <;> rfl
/-- An operation under a guard that is told. -/
theorem SO.guardV {Dl : List (Option Nat)} {g t : Nat} {want : Bool} {c : Bool} {u : Value} {d : Option Nat} {p : Op} {v : Value}
    (hg : lnth Dl g = some (some t)) (hl : look f t = some u) (hu : asB u = some want ↔ c = true)
    (h : c = true → VO P n w0 f L ⟨d, p, ty, pos, af, some (g, want)⟩ v) : SO P n w0 (some Dl) f L ⟨d, p, ty, pos, af, some (g, want)⟩ (fun v' L' => v' = (bif c then v else undef) ∧ L' = L) := by
  intro ops hD Q hE K a w fr s hK
  have hy := yielded_of (hD Dl rfl) hg fr hl
  simp only [Region.wanted, hy]
  by_cases q : c = true
  · have q' := hu.2 q
    rw [q', if_pos (by simp)]
    exact h q Q hE K a w fr s (fun v' L' w' ⟨e, e'⟩ s' => hK _ _ _ ⟨by rw [q]; exact e, e'⟩ s')
  · have q' : ¬ (asB u = some want) := fun e => q (hu.1 e)
    rw [if_neg (by simpa using q')]
    exact hK undef L w ⟨by simp only [Bool.not_eq_true] at q; rw [q]; rfl, rfl⟩ s
/-- What a slot holds of which an operation under a guard tells the value: nothing, where it was left. -/
def gd (b : Bool) (v : Value) : Value := bif b then v else undef
theorem evg {x : Operand} {b : Bool} {v : Value} (he : b = true) (h : ev f x = some (gd b v)) : ev f x = some v := by subst he; exact h
theorem SO.guardT {Dl : List (Option Nat)} {d : Option Nat} {g t : Nat} {b : Bool} {p : Op} {v : Value}
    (hg : lnth Dl g = some (some t)) (hl : look f t = some (.bool b)) (h : b = true → VO P n w0 f L ⟨d, p, ty, pos, af, some (g, true)⟩ v) :
    SO P n w0 (some Dl) f L ⟨d, p, ty, pos, af, some (g, true)⟩ (fun v' L' => v' = gd b v ∧ L' = L) :=
  SO.guardV hg hl (by cases b <;> simp [asB]) h
theorem WO.guardT {Dl : List (Option Nat)} {d g t : Nat} {b : Bool} {p : Op} {v : Value}
    (hg : lnth Dl g = some (some t)) (hl : look f t = some (.bool b)) (h : b = true → VO P n w0 f L ⟨some d, p, ty, pos, af, some (g, true)⟩ v) (hn : Nat.blt d n = true)
    (k : WO P n w0 (some Dl) rest N ((d, gd b v) :: f) L) : WO P n w0 (some Dl) (⟨some d, p, ty, pos, af, some (g, true)⟩ :: rest) N f L :=
  WO.step (SO.guardT hg hl h) hn (fun v' L' ⟨e, e'⟩ => by subst e; subst e'; exact k)
theorem SO.guardF {Dl : List (Option Nat)} {d : Option Nat} {g t : Nat} {b : Bool} {p : Op} {v : Value}
    (hg : lnth Dl g = some (some t)) (hl : look f t = some (.bool b)) (h : (!b) = true → VO P n w0 f L ⟨d, p, ty, pos, af, some (g, false)⟩ v) :
    SO P n w0 (some Dl) f L ⟨d, p, ty, pos, af, some (g, false)⟩ (fun v' L' => v' = gd (!b) v ∧ L' = L) :=
  SO.guardV hg hl (by cases b <;> simp [asB]) h
theorem WO.guardF {Dl : List (Option Nat)} {d g t : Nat} {b : Bool} {p : Op} {v : Value}
    (hg : lnth Dl g = some (some t)) (hl : look f t = some (.bool b)) (h : (!b) = true → VO P n w0 f L ⟨some d, p, ty, pos, af, some (g, false)⟩ v) (hn : Nat.blt d n = true)
    (k : WO P n w0 (some Dl) rest N ((d, gd (!b) v) :: f) L) : WO P n w0 (some Dl) (⟨some d, p, ty, pos, af, some (g, false)⟩ :: rest) N f L :=
  WO.step (SO.guardF hg hl h) hn (fun v' L' ⟨e, e'⟩ => by subst e; subst e'; exact k)
theorem SO.guardGT {Dl : List (Option Nat)} {d : Option Nat} {g t : Nat} {c b : Bool} {p : Op} {v : Value}
    (hg : lnth Dl g = some (some t)) (hl : look f t = some (gd c (.bool b))) (h : (c && b) = true → VO P n w0 f L ⟨d, p, ty, pos, af, some (g, true)⟩ v) :
    SO P n w0 (some Dl) f L ⟨d, p, ty, pos, af, some (g, true)⟩ (fun v' L' => v' = gd (c && b) v ∧ L' = L) :=
  SO.guardV hg hl (by cases c <;> cases b <;> simp [gd, undef, asB]) h
theorem WO.guardGT {Dl : List (Option Nat)} {d g t : Nat} {c b : Bool} {p : Op} {v : Value}
    (hg : lnth Dl g = some (some t)) (hl : look f t = some (gd c (.bool b))) (h : (c && b) = true → VO P n w0 f L ⟨some d, p, ty, pos, af, some (g, true)⟩ v) (hn : Nat.blt d n = true)
    (k : WO P n w0 (some Dl) rest N ((d, gd (c && b) v) :: f) L) : WO P n w0 (some Dl) (⟨some d, p, ty, pos, af, some (g, true)⟩ :: rest) N f L :=
  WO.step (SO.guardGT hg hl h) hn (fun v' L' ⟨e, e'⟩ => by subst e; subst e'; exact k)
theorem SO.guardGF {Dl : List (Option Nat)} {d : Option Nat} {g t : Nat} {c b : Bool} {p : Op} {v : Value}
    (hg : lnth Dl g = some (some t)) (hl : look f t = some (gd c (.bool b))) (h : (c && !b) = true → VO P n w0 f L ⟨d, p, ty, pos, af, some (g, false)⟩ v) :
    SO P n w0 (some Dl) f L ⟨d, p, ty, pos, af, some (g, false)⟩ (fun v' L' => v' = gd (c && !b) v ∧ L' = L) :=
  SO.guardV hg hl (by cases c <;> cases b <;> simp [gd, undef, asB]) h
theorem WO.guardGF {Dl : List (Option Nat)} {d g t : Nat} {c b : Bool} {p : Op} {v : Value}
    (hg : lnth Dl g = some (some t)) (hl : look f t = some (gd c (.bool b))) (h : (c && !b) = true → VO P n w0 f L ⟨some d, p, ty, pos, af, some (g, false)⟩ v) (hn : Nat.blt d n = true)
    (k : WO P n w0 (some Dl) rest N ((d, gd (c && !b) v) :: f) L) : WO P n w0 (some Dl) (⟨some d, p, ty, pos, af, some (g, false)⟩ :: rest) N f L :=
  WO.step (SO.guardGF hg hl h) hn (fun v' L' ⟨e, e'⟩ => by subst e; subst e'; exact k)
theorem and_l {a b : Bool} (h : (a && b) = true) : a = true := by cases a <;> simp_all
theorem and_r {a b : Bool} (h : (a && b) = true) : b = true := by cases a <;> simp_all
/-- A new variable. -/
theorem EO.new {d : Option Nat} {p : Op} {o : Obj} (hx : ∀ a w, Fr n f a → Sat w0 L w → (execOp a.eval ⟨d, p, ty, pos, af, g⟩).run P w = .ok (.value (.pointer (some ⟨w.heap.size, 0, none⟩))) (w.alloc o)) :
    EO P n w0 f L ⟨d, p, ty, pos, af, g⟩ fun v L' => ∃ b, v = .pointer (some ⟨b, 0, none⟩) ∧ L' = L ++ [pt b o] := by
  intro Q hE K a w fr s hK
  left
  unfold Oper.wp
  rw [hx a w fr s]
  exact hK _ _ _ ⟨w.heap.size, rfl, rfl⟩ (s.alloc o)
theorem WO.new {d : Nat} {p : Op} {o : Obj} (h : EO P n w0 f L ⟨some d, p, ty, pos, af, none⟩ fun v L' => ∃ b, v = .pointer (some ⟨b, 0, none⟩) ∧ L' = L ++ [pt b o]) (hn : Nat.blt d n = true)
    (k : ∀ b, WO P n w0 D rest N ((d, .pointer (some ⟨b, 0, none⟩)) :: f) (L ++ [pt b o])) : WO P n w0 D (⟨some d, p, ty, pos, af, none⟩ :: rest) N f L :=
  WO.step (SO.of rfl h) hn (fun v L' ⟨b, e, e'⟩ => by subst e; subst e'; exact k b)
theorem EO.alloc {d : Option Nat} {T : TypeId} {z : Value} (hz : ∀ w, (zeroValue T).run P w = .ok z w) : EO P n w0 f L ⟨d, .alloc T, ty, pos, af, g⟩ fun v L' => ∃ b, v = .pointer (some ⟨b, 0, none⟩) ∧ L' = L ++ [pt b (.cells z.cells T (0, 0))] :=
  EO.new (fun a w _ _ => by simp [execOp, Instr.alloc, hz, newVar, newRow, newObj, Sem.run])
theorem EO.box {d : Option Nat} {T : TypeId} {x : Operand} {v : Value} (hx : ev f x = some v) : EO P n w0 f L ⟨d, .box T x, ty, pos, af, g⟩ fun u L' => ∃ b, u = .pointer (some ⟨b, 0, none⟩) ∧ L' = L ++ [pt b (.cells v.cells T (0, 0))] :=
  EO.new (fun a w fr _ => by simp [execOp, fr.ev hx, Instr.box, newVar, newRow, newObj, Sem.run])
theorem WO.alloc {d : Nat} {T : TypeId} {z : Value} (hz : ∀ w, (zeroValue T).run P w = .ok z w) (hn : Nat.blt d n = true)
    (k : ∀ b, WO P n w0 D rest N ((d, .pointer (some ⟨b, 0, none⟩)) :: f) (L ++ [pt b (.cells z.cells T (0, 0))])) : WO P n w0 D (⟨some d, .alloc T, ty, pos, af, none⟩ :: rest) N f L :=
  WO.new (EO.alloc hz) hn k
theorem WO.box {d : Nat} {T : TypeId} {x : Operand} {v : Value} (hx : ev f x = some v) (hn : Nat.blt d n = true)
    (k : ∀ b, WO P n w0 D rest N ((d, .pointer (some ⟨b, 0, none⟩)) :: f) (L ++ [pt b (.cells v.cells T (0, 0))])) : WO P n w0 D (⟨some d, .box T x, ty, pos, af, none⟩ :: rest) N f L :=
  WO.new (EO.box hx) hn k
/-- A store. -/
theorem run_storeCells {b : Nat} {T : TypeId} : ∀ (vs : List Value) (cs : Array Value) (o i : Nat) (w : World), w.heap[b]? = some (.cells cs T (0, 0)) → (∀ v ∈ vs, isCell v = true) → o + i + vs.length ≤ cs.size →
    (storeCells ⟨b, o, none⟩ vs i).run P w = .ok () { w with heap := w.heap.setIfInBounds b (.cells (putFrom cs (o + i) vs) T (0, 0)) } := by
  intro vs
  induction vs with
  | nil =>
    intro cs o i w h _ _
    have : w.heap.setIfInBounds b (.cells cs T (0, 0)) = w.heap := by
      apply Array.ext_getElem?
      intro j
      rw [Array.getElem?_setIfInBounds]
      split
      · rename_i e; subst e
        split
        · exact h.symm
        · rename_i q; rw [Array.getElem?_eq_none (Nat.le_of_not_lt q)]
      · rfl
    simp [storeCells, Sem.run, pure, putFrom, this]
  | cons v vs ih =>
    intro cs o i w h hv hlen
    have hadd : (⟨b, o, none⟩ : Addr).add i = ⟨b, o + i, none⟩ := by
      unfold Addr.add; split
      · rename_i e; subst e; rfl
      · rfl
    have hlt : b < w.heap.size := by
      rcases Nat.lt_or_ge b w.heap.size with q | q
      · exact q
      · simp [Array.getElem?_eq_none q] at h
    simp only [List.length_cons] at hlen
    have hst := run_store_cell (P := P) (w := w) (a := ⟨b, o + i, none⟩) (hv v (by simp)) (by simp [World.cell?, h, show o + i < cs.size from by omega]) (by simp [World.frozen?, h])
    unfold storeCells
    rw [Sem.run_bind, hadd, hst, setCell_eq h]
    simp only [Result.andThen]
    have := ih (cs.setIfInBounds (o + i) v) o (i + 1) { w with heap := w.heap.setIfInBounds b (.cells (cs.setIfInBounds (o + i) v) T (0, 0)) } (by simp [hlt]) (fun u hu => hv u (by simp [hu])) (by simp; omega)
    refine this.trans ?_
    simp [putFrom, Nat.add_assoc]
theorem EO.store {t : TypeId} {x y : Operand} {b o : Nat} {cs : Array Value} {T : TypeId} {v : Value} (i : Nat) (M : List HP) (hx : ev f x = some (.pointer (some ⟨b, o, none⟩))) (hy : ev f y = some v)
    (hz : ∀ w, (sizeOf t).run P w = .ok v.cells.size w) (hl : nth L i = some (pt b (.cells cs T (0, 0)))) (hv : allCell v.cells.toList = true) (hk : Nat.ble (o + v.cells.size) cs.size = true)
    (hM : setN L i (pt b (.cells (putL cs.toList o v.cells.toList).toArray T (0, 0))) = M) :
    EO P n w0 f L ⟨none, .store t x y, ty, pos, af, g⟩ fun _ L' => L' = M := by
  intro Q hE K a w fr s hK
  left
  have hl' : L[i]? = some (pt b (.cells cs T (0, 0))) := by rw [← nth_eq]; exact hl
  have hs := run_storeCells (P := P) v.cells.toList cs o 0 w (s.get hl') (allCell_mem hv) (by have := Nat.le_of_ble_eq_true hk; simpa using this)
  have hr : (execOp a.eval ⟨none, .store t x y, ty, pos, af, g⟩).run P w = .ok .skip { w with heap := w.heap.setIfInBounds b (.cells (putFrom cs o v.cells.toList) T (0, 0)) } := by
    simp [execOp, fr.ev hx, fr.ev hy, Instr.storeAt, Instr.sureAddr, storeVar, hz, hs]
  unfold Oper.wp
  rw [hr]
  exact hK undef _ _ rfl (by rw [← hM, setN_eq, ← putFrom_eq]; exact s.put hl' _)
theorem WO.store {t : TypeId} {x y : Operand} {b o : Nat} {cs : Array Value} {T : TypeId} {v : Value} (i : Nat) (M : List HP) (hx : ev f x = some (.pointer (some ⟨b, o, none⟩))) (hy : ev f y = some v)
    (hz : ∀ w, (sizeOf t).run P w = .ok v.cells.size w) (hl : nth L i = some (pt b (.cells cs T (0, 0)))) (hv : allCell v.cells.toList = true) (hk : Nat.ble (o + v.cells.size) cs.size = true)
    (hM : setN L i (pt b (.cells (putL cs.toList o v.cells.toList).toArray T (0, 0))) = M) (k : WO P n w0 D rest N f M) : WO P n w0 D (⟨none, .store t x y, ty, pos, af, none⟩ :: rest) N f L :=
  WO.step (SO.of rfl (EO.store i M hx hy hz hl hv hk hM)) rfl (fun v L' e => by subst e; exact k)

/-! ## Calls of functions by their numbers -/
theorem run_call {d : Option Tmp} {h : FuncId} {xs : Array Operand} {tys : Array TypeId} {vs : List Value} (hc : ∀ args w, (callFunc h args).run P w = .ok (.enter h args) w) (hx : evs f xs.toList = some vs)
    (a : Act) (w : World) (fr : Fr n f a) : (execOp a.eval ⟨d, .call ⟨.value (.func h), xs, tys⟩, ty, pos, af, g⟩).run P w = .ok (.enter h vs.toArray) w := by
  have hm : xs.map a.eval = vs.toArray := by
    apply Array.ext'; rw [Array.toList_map]; exact fr.evs hx
  simp [execOp, resolve, Act.eval, Deferred.ofValue, invoke, hm, hc]
theorem run_callV {d : Option Tmp} {h : FuncId} {y : Operand} {xs : Array Operand} {tys : Array TypeId} {vs us : List Value} {fi ca : Array Value} (hc : ∀ args w, (callFunc h args).run P w = .ok (.enter h args) w)
    (hy : ev f y = some (.func (.func h) fi ca)) (hx : evs f xs.toList = some vs) (hu : fi.toList ++ vs ++ ca.toList = us)
    (a : Act) (w : World) (fr : Fr n f a) : (execOp a.eval ⟨d, .call ⟨.value y, xs, tys⟩, ty, pos, af, g⟩).run P w = .ok (.enter h us.toArray) w := by
  have hm : xs.map a.eval = vs.toArray := by
    apply Array.ext'; rw [Array.toList_map]; exact fr.evs hx
  have hm' : fi ++ vs.toArray ++ ca = us.toArray := by
    apply Array.ext'; simpa using hu
  simp [execOp, resolve, fr.ev hy, Deferred.ofValue, invoke, hm, hc, ← hm']
/-- A call that tells a value and turns one part of the heap; one that turns none. -/
def TriV (P : Program) (g : FuncId) (args : List Value) (A : List HP) (v : Value) (B : List HP) : Prop := Tri P g args.toArray A fun u C => u = v ∧ C = B
theorem VO.call0 {d : Option Nat} {h : FuncId} {xs : Array Operand} {tys : Array TypeId} {vs : List Value} {v : Value} (hc : ∀ args w, (callFunc h args).run P w = .ok (.enter h args) w) (hx : evs f xs.toList = some vs)
    (ht : TriV P h vs [] v []) : VO P n w0 f L ⟨d, .call ⟨.value (.func h), xs, tys⟩, ty, pos, af, g⟩ v :=
  fun Q hE K a w fr s hK => EO.call (A := []) (sep L) (fun a w fr _ => run_call hc hx a w fr) ht (by rw [List.nil_append, sep_one]) Q hE K a w fr s
    (fun u L' w' ⟨B, ⟨e1, e2⟩, e4⟩ s => by subst e1; subst e2; subst e4; exact hK _ _ _ ⟨rfl, rfl⟩ (s.eq (by rw [List.nil_append, sep_one])))
/-- A call that turns one part of the heap. -/
theorem EO.call1 {d : Option Nat} {h : FuncId} {xs : Array Operand} {tys : Array TypeId} {vs : List Value} {v : Value} {A B : HP} (i : Nat) (M : List HP) (hc : ∀ args w, (callFunc h args).run P w = .ok (.enter h args) w)
    (hx : evs f xs.toList = some vs) (hl : nth L i = some A) (ht : TriV P h vs [A] v [B]) (hM : setN L i B = M) :
    EO P n w0 f L ⟨d, .call ⟨.value (.func h), xs, tys⟩, ty, pos, af, g⟩ fun v' L' => v' = v ∧ L' = M :=
  fun Q hE K a w fr s hK => EO.call (A := [A]) (sep (delN L i)) (fun a w fr _ => run_call hc hx a w fr) ht (by rw [List.singleton_append, sep_cons, sep_one]; exact sep_nth hl) Q hE K a w fr s
    (fun u L' w' ⟨C, ⟨e1, e2⟩, e4⟩ s => by
      subst e1; subst e2; subst e4
      exact hK _ _ _ ⟨rfl, rfl⟩ (s.eq (by rw [List.singleton_append, sep_cons, sep_one, ← hM]; exact (sep_setN B hl).symm)))
theorem VO.call1 {d : Option Nat} {h : FuncId} {xs : Array Operand} {tys : Array TypeId} {vs : List Value} {v : Value} {A : HP} (i : Nat) (hc : ∀ args w, (callFunc h args).run P w = .ok (.enter h args) w) (hx : evs f xs.toList = some vs)
    (hl : nth L i = some A) (ht : TriV P h vs [A] v [A]) : VO P n w0 f L ⟨d, .call ⟨.value (.func h), xs, tys⟩, ty, pos, af, g⟩ v :=
  EO.call1 i L hc hx hl ht (setN_self hl)
theorem WO.call1 {d : Nat} {h : FuncId} {xs : Array Operand} {tys : Array TypeId} {vs : List Value} {v : Value} {A B : HP} (i : Nat) (M : List HP) (hc : ∀ args w, (callFunc h args).run P w = .ok (.enter h args) w)
    (hx : evs f xs.toList = some vs) (hl : nth L i = some A) (ht : TriV P h vs [A] v [B]) (hM : setN L i B = M) (hn : Nat.blt d n = true) (k : WO P n w0 D rest N ((d, v) :: f) M) :
    WO P n w0 D (⟨some d, .call ⟨.value (.func h), xs, tys⟩, ty, pos, af, none⟩ :: rest) N f L :=
  WO.step (SO.of rfl (EO.call1 i M hc hx hl ht hM)) hn (fun u L' ⟨e1, e2⟩ => by subst e1; subst e2; exact k)
end
end Go.Proofs.YtlnionilhagenaaGreatDoor
