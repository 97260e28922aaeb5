/- Slices and maps. -/
import Derived.Test.YtlnionilhagenaaGreatDoorSl6
import Derived.Room.AppendOwn
import Derived.Room.Make
namespace Go.Proofs.YtlnionilhagenaaGreatDoor
open Go.RowKit
set_option linter.all false

theorem addr_add' (b o n : Nat) : (⟨b, o, none⟩ : Addr).add n = ⟨b, o + n, none⟩ := by
  unfold Addr.add; split
  · rename_i e; subst e; rfl
  · rfl
/-- A row of cells of which the first are known. -/
def rowAt (b : Nat) (T : TypeId) (N : Nat) (xs : List Value) : HP := fun h => ∃ cs : Array Value, cs.size = N ∧ cs.toList.take xs.length = xs ∧ pt b (.cells cs T (0, 0)) h
/-- A slice that begins at its row's head and has that row for itself. -/
def slc (T : TypeId) (k : Nat) (v : Value) (len : Nat) (xs : List Value) : HP := fun h =>
  (v = .slice none 0 0 ∧ len = 0 ∧ xs = [] ∧ emp h) ∨
  ∃ b cap, v = .slice (some ⟨b, 0, none⟩) len cap ∧ xs.length = len * k ∧ len ≤ cap ∧ cap ≤ maxLen ∧ rowAt b T (cap * k) xs h
theorem slc_nil (T : TypeId) (k : Nat) : slc T k (.slice none 0 0) 0 [] = emp := by
  funext h; apply propext; constructor
  · rintro (⟨_, _, _, e⟩ | ⟨b, cap, e, _⟩)
    · exact e
    · cases e
  · intro e; exact .inl ⟨rfl, rfl, rfl, e⟩

section
variable {P : Program} {n : Fs} {w0 : Ctx} {N : Cn} {X : Nat → Cn} {R : Cn} {f : Frm} {L : List HP} {D : Option (List (Option Nat))} {rest : List Oper}
  {d : Option Tmp} {ty : TypeId} {pos : String} {af : Array Edge} {g : Option (Nat × Bool)}
theorem Sat.pick {w : World} {i : Nat} {A : HP} (s : Sat w0 L w) (h : nth L i = some A) : ∃ h1 : Hp, A h1 ∧ ∀ b o, h1 b = some o → w.heap[b]? = some o := by
  obtain ⟨_, hp, q, hs⟩ := s
  rw [sep_nth h] at hs
  obtain ⟨h1, h2, dd, rfl, a, _⟩ := hs
  exact ⟨h1, a, fun b o e => q b o (by simp [Hp.un, e])⟩
theorem rowAt_cell {w : World} {b : Nat} {T : TypeId} {M : Nat} {xs : List Value} {h : Hp} (hr : rowAt b T M xs h) (hh : ∀ c o, h c = some o → w.heap[c]? = some o) {o : Nat} {v : Value} (hv : lnth xs o = some v) :
    w.cell? ⟨b, o, none⟩ = some v := by
  obtain ⟨cs, _, hx, hp⟩ := hr
  have hb : w.heap[b]? = some (.cells cs T (0, 0)) := hh b _ (by rw [show h = _ from hp]; simp)
  have : cs[o]? = some v := by
    rw [lnth_eq, ← hx, List.getElem?_take] at hv
    split at hv
    · simpa using hv
    · cases hv
  simp [World.cell?, hb, this]
/-- A read of a slice's cell. -/
theorem PO.loadRow {t : TypeId} {x : Operand} {b o : Nat} {T : TypeId} {M : Nat} {xs : List Value} {v : Value} (i : Nat) (hx : ev f x = some (.pointer (some ⟨b, o, none⟩))) (ha : ∀ w, (isAgg t).run P w = .ok false w)
    (hl : nth L i = some (rowAt b T M xs)) (hv : lnth xs o = some v) : PO P n w0 f L ⟨d, .load t x, ty, pos, af, g⟩ v := fun a w fr s => by
  obtain ⟨h1, hr, hh⟩ := s.pick hl
  have hc := rowAt_cell hr hh hv
  simp [execOp, fr.ev hx, Instr.loadAt, Instr.sureAddr, loadVar, ha, Go.load, Sem.run, hc]
theorem PO.loadRowAgg {t : TypeId} {x : Operand} {b o k : Nat} {T : TypeId} {M : Nat} {xs : List Value} {vs : Array Value} (i : Nat) (hx : ev f x = some (.pointer (some ⟨b, o, none⟩))) (ha : ∀ w, (isAgg t).run P w = .ok true w)
    (hz : ∀ w, (sizeOf t).run P w = .ok k w) (hl : nth L i = some (rowAt b T M xs)) (hk : o + k ≤ xs.length) (hv : (xs.drop o).take k = vs.toList) : PO P n w0 f L ⟨d, .load t x, ty, pos, af, g⟩ (.agg vs) := fun a w fr s => by
  obtain ⟨h1, ⟨cs, _, hxs, hp⟩, hh⟩ := s.pick hl
  have hb : w.heap[b]? = some (.cells cs T (0, 0)) := hh b _ (by rw [show h1 = _ from hp]; simp)
  have hle : xs.length ≤ cs.size := by rw [← hxs]; simp; omega
  have h := run_loadCellsFrom (P := P) (w := w) (b := b) (cs := cs) (fun o => by simp [World.cell?, hb]) k 0 o #[] (by omega)
  have he : cs.extract o (o + k) = vs := by
    apply Array.ext'
    rw [← hv, ← hxs]
    simp only [Array.toList_extract, List.extract_eq_take_drop]
    rw [List.drop_take, List.take_take]
    congr 1; omega
  simp only [Nat.add_zero, Array.empty_append, he] at h
  simp [execOp, fr.ev hx, Instr.loadAt, Instr.sureAddr, loadVar, ha, hz, loadCells, h]
theorem PO.idxSlice {t e : TypeId} {x y : Operand} {b o len cap k : Nat} {kd : IntKind} {i : Int} {q : Addr} (hx : ev f x = some (.slice (some ⟨b, o, none⟩) len cap)) (hy : ev f y = some (.int kd i))
    (hu : ∀ w, (underlying t).run P w = .ok (.slice e) w) (hz : ∀ w, (sizeOf e).run P w = .ok k w) (h0 : 0 ≤ i) (h1 : i < len) (hq : q = ⟨b, o + i.toNat * k, none⟩) :
    PO P n w0 f L ⟨d, .indexAddr t x y, ty, pos, af, g⟩ (.pointer (some q)) := fun a w fr s => by
  have hadd : (⟨b, o, none⟩ : Addr).add (i.toNat * k) = q := by
    subst hq; unfold Addr.add; split
    · rename_i e; rw [e]; rfl
    · rfl
  simp [execOp, fr.ev hx, fr.ev hy, Instr.indexAt, asIntOf, hu, h0, h1, hz, hadd]
theorem PO.lenSlice {x : Operand} {t e : TypeId} {a : Option Addr} {len cap : Nat} (hx : ev f x = some (.slice a len cap)) (hu : ∀ w, (underlying t).run P w = .ok (.slice e) w) :
    PO P n w0 f L ⟨d, .call ⟨.builtin .len, #[x], #[t]⟩, ty, pos, af, g⟩ (.int .i64 (len : Int)) := fun ac w fr _ => by
  simp [execOp, resolve, fr.ev hx, invoke, builtin, Builtin.len_, hu, goInt]
end

/-! ## Rows of elements -/
def fl {α : Type} (c : α → List Value) : List α → List Value
  | [] => []
  | a :: l => c a ++ fl c l
section
variable {α : Type} {c : α → List Value} {k : Nat}
theorem fl_length (hc : ∀ a, (c a).length = k) (l : List α) : (fl c l).length = l.length * k := by
  induction l with
  | nil => simp [fl]
  | cons a l ih => simp only [fl, List.length_append, ih, List.length_cons, hc]; rw [Nat.add_mul]; omega
theorem fl_append (l m : List α) : fl c (l ++ m) = fl c l ++ fl c m := by
  induction l with
  | nil => rfl
  | cons a l ih => simp [fl, ih]
theorem fl_snoc (l : List α) (a : α) : fl c (l ++ [a]) = fl c l ++ c a := by rw [fl_append]; simp [fl]
theorem fl_get (hc : ∀ a, (c a).length = k) : ∀ (l : List α) (i j : Nat) (a : α), l[i]? = some a → j < k → (fl c l)[i * k + j]? = (c a)[j]? := by
  intro l
  induction l with
  | nil => intro i j a h; simp at h
  | cons b l ih =>
    intro i j a h hj
    cases i with
    | zero =>
      simp at h; subst h
      simp only [fl, Nat.zero_mul, Nat.zero_add]
      rw [List.getElem?_append_left (by rw [hc]; exact hj)]
    | succ i =>
      simp at h
      simp only [fl]
      rw [show (i + 1) * k + j = (c b).length + (i * k + j) from by rw [hc, Nat.add_mul]; omega, List.getElem?_append_right (by omega)]
      rw [← ih i j a h hj]
      congr 1; omega
theorem fl_drop (hc : ∀ a, (c a).length = k) : ∀ (l : List α) (i : Nat) (a : α), l[i]? = some a → ((fl c l).drop (i * k)).take k = c a := by
  intro l
  induction l with
  | nil => intro i a h; simp at h
  | cons b l ih =>
    intro i a h
    cases i with
    | zero => simp at h; subst h; simp [fl, ← hc b]
    | succ i =>
      simp at h
      rw [← ih i a h]
      simp only [fl]
      rw [show (i + 1) * k = (c b).length + i * k from by rw [hc, Nat.add_mul]; omega, ← List.drop_drop, List.drop_left]
/-- An element at an index of Go's. -/
def getI (l : List α) (i : Int) : Option α := if 0 ≤ i then l[i.toNat]? else none
theorem getI_lt {l : List α} {i : Int} {a : α} (h : getI l i = some a) : 0 ≤ i ∧ i < (l.length : Int) ∧ l[i.toNat]? = some a := by
  unfold getI at h
  split at h
  · rename_i h0
    have := (List.getElem?_eq_some_iff.1 h).1
    exact ⟨h0, by omega, h⟩
  · cases h
theorem fl_at (hc : ∀ a, (c a).length = k) {l : List α} {i : Int} {a : α} {j : Nat} {u : Value} (h : getI l i = some a) (hj : lnth (c a) j = some u) : lnth (fl c l) (i.toNat * k + j) = some u := by
  rw [lnth_eq] at hj ⊢
  rw [fl_get hc l _ j a (getI_lt h).2.2 (by rw [← hc a]; exact (List.getElem?_eq_some_iff.1 hj).1)]; exact hj
end
/-- The block of a slice. -/
def blk : Value → Nat
  | .slice (some a) _ _ => a.block
  | _ => 0
section
variable {P : Program} {n : Fs} {w0 : Ctx} {N : Cn} {X : Nat → Cn} {R : Cn} {f : Frm} {L : List HP} {D : Option (List (Option Nat))} {rest : List Oper}
  {d : Option Tmp} {ty : TypeId} {pos : String} {af : Array Edge} {g : Option (Nat × Bool)} {α : Type} {c : α → List Value} {T : TypeId} {k : Nat}
theorem PO.lenL {x : Operand} {t e : TypeId} {v : Value} {len : Nat} {xs : List Value} (i : Nat) (hx : ev f x = some v) (hu : ∀ w, (underlying t).run P w = .ok (.slice e) w) (hl : nth L i = some (slc T k v len xs)) :
    PO P n w0 f L ⟨d, .call ⟨.builtin .len, #[x], #[t]⟩, ty, pos, af, g⟩ (.int .i64 (len : Int)) := fun ac w fr s => by
  obtain ⟨h1, hs, _⟩ := s.pick hl
  rcases hs with ⟨rfl, rfl, _⟩ | ⟨b, cap, rfl, _⟩
  · simp [execOp, resolve, fr.ev hx, invoke, builtin, Builtin.len_, hu, goInt]
  · simp [execOp, resolve, fr.ev hx, invoke, builtin, Builtin.len_, hu, goInt]
theorem PO.idxL {t e : TypeId} {x y : Operand} {v : Value} {l : List α} {kd : IntKind} {q : Int} {a : α} (i : Nat) (hx : ev f x = some v) (hy : ev f y = some (.int kd q))
    (hu : ∀ w, (underlying t).run P w = .ok (.slice e) w) (hz : ∀ w, (sizeOf e).run P w = .ok k w) (hl : nth L i = some (slc T k v l.length (fl c l))) (ha : getI l q = some a) :
    PO P n w0 f L ⟨d, .indexAddr t x y, ty, pos, af, g⟩ (.pointer (some ⟨blk v, q.toNat * k, none⟩)) := fun ac w fr s => by
  obtain ⟨h0, h1, h2⟩ := getI_lt ha
  obtain ⟨hp, hs, _⟩ := s.pick hl
  rcases hs with ⟨rfl, hz0, _⟩ | ⟨b, cap, rfl, _⟩
  · omega
  · have hadd : (⟨b, 0, none⟩ : Addr).add (q.toNat * k) = ⟨b, q.toNat * k, none⟩ := by rw [addr_add']; simp
    simp [execOp, fr.ev hx, fr.ev hy, Instr.indexAt, asIntOf, hu, h0, h1, hz, hadd, blk]
theorem PO.loadL {t : TypeId} {x : Operand} {v u : Value} {len o : Nat} {xs : List Value} (i : Nat) (hx : ev f x = some (.pointer (some ⟨blk v, o, none⟩))) (ha : ∀ w, (isAgg t).run P w = .ok false w)
    (hl : nth L i = some (slc T k v len xs)) (hv : lnth xs o = some u) : PO P n w0 f L ⟨d, .load t x, ty, pos, af, g⟩ u := fun a w fr s => by
  obtain ⟨h1, hs, hh⟩ := s.pick hl
  rcases hs with ⟨rfl, _, rfl, _⟩ | ⟨b, cap, rfl, _, _, _, hr⟩
  · cases hv
  · have hc := rowAt_cell hr hh hv
    have hx' : ev f x = some (.pointer (some ⟨b, o, none⟩)) := hx
    simp [execOp, fr.ev hx', Instr.loadAt, Instr.sureAddr, loadVar, ha, Go.load, Sem.run, hc]
theorem PO.loadLAgg {t : TypeId} {x : Operand} {v : Value} {l : List α} {q : Int} {a : α} {vs : Array Value} (i : Nat) (hc : ∀ a, (c a).length = k) (hx : ev f x = some (.pointer (some ⟨blk v, q.toNat * k, none⟩))) (ha : ∀ w, (isAgg t).run P w = .ok true w)
    (hz : ∀ w, (sizeOf t).run P w = .ok k w) (hl : nth L i = some (slc T k v l.length (fl c l))) (hg : getI l q = some a) (hv : (c a).toArray = vs) : PO P n w0 f L ⟨d, .load t x, ty, pos, af, g⟩ (.agg vs) := fun ac w fr s => by
  obtain ⟨h0, h1, h2⟩ := getI_lt hg
  obtain ⟨hp, hs, hh⟩ := s.pick hl
  rcases hs with ⟨rfl, hz0, _⟩ | ⟨b, cap, rfl, hlen, hle, _, cs, hcs, htk, hpt⟩
  · omega
  · have hb : w.heap[b]? = some (.cells cs T (0, 0)) := hh b _ (by rw [show hp = _ from hpt]; simp)
    have hlt : q.toNat < l.length := (List.getElem?_eq_some_iff.1 h2).1
    have hfit : q.toNat * k + k ≤ l.length * k := by
      have : (q.toNat + 1) * k ≤ l.length * k := Nat.mul_le_mul_right _ hlt
      rw [Nat.add_mul] at this; omega
    have hcap : l.length * k ≤ cs.size := by rw [hcs]; exact Nat.mul_le_mul_right _ hle
    have h := run_loadCellsFrom (P := P) (w := w) (b := b) (cs := cs) (fun o => by simp [World.cell?, hb]) k 0 (q.toNat * k) #[] (by omega)
    have he : cs.extract (q.toNat * k) (q.toNat * k + k) = vs := by
      rw [← hv]
      apply Array.ext'
      rw [← fl_drop hc l _ a h2]
      have hfl := fl_length hc l
      rw [← htk]
      simp only [Array.toList_extract, List.extract_eq_take_drop]
      rw [List.drop_take, List.take_take, hfl]
      congr 1; omega
    simp only [Nat.add_zero, Array.empty_append, he] at h
    have hx' : ev f x = some (.pointer (some ⟨b, q.toNat * k, none⟩)) := hx
    simp [execOp, fr.ev hx', Instr.loadAt, Instr.sureAddr, loadVar, ha, hz, loadCells, h]
end

/-! ## Maps -/
def mapAt {α β : Type} (kv : α → Value) (vv : β → Value) (r : Nat) (l : List (α × β)) : HP := fun h =>
  ∃ (es : Array MapEntry) (clock : Nat), es.toList.map (fun e => (e.key, e.val)) = l.map (fun p => (kv p.1, vv p.2)) ∧ pt r (.map es clock) h
def mget {α β : Type} [DecidableEq α] (l : List (α × β)) (a : α) : Option β := match l with
  | [] => none
  | (x, b) :: l => if x = a then some b else mget l a
/-- A list as a map: the value of a key is turned where it stands, or put at the end. -/
def mput {α β : Type} [DecidableEq α] (l : List (α × β)) (a : α) (b : β) : List (α × β) := match l with
  | [] => [(a, b)]
  | (x, c) :: l => if x = a then (x, b) :: l else (x, c) :: mput l a b
/-- What is asked of a type of keys. -/
structure KeyOk (P : Program) (t : TypeId) {α : Type} [DecidableEq α] (kv : α → Value) : Prop where
  check : ∀ (e : Bool) (a : α) w, (Instr.checkKey e 10000 t (kv a)).run P w = .ok () w
  eq : ∀ (a b : α) w, (Op.equal t (kv a) (kv b)).run P w = .ok (decide (a = b)) w
  now : ∀ (a b : α) k, P.underlying t = some k → (Instr.sameNow k (kv a) (kv b) = none ∨ Instr.sameNow k (kv a) (kv b) = some (decide (a = b)))
  stays : ∀ a : α, Instr.sameBits 10000 (kv a) (kv a) = true
  und : ∃ k, P.underlying t = some k
section
variable {P : Program} {α β : Type} [DecidableEq α] {t : TypeId} {kv : α → Value} {vv : β → Value}
def findI (l : List (α × β)) (a : α) : Option (Nat × β) := match l with
  | [] => none
  | (x, b) :: l => if x = a then some (0, b) else (findI l a).map fun p => (p.1 + 1, p.2)
theorem findAsking_run (hk : KeyOk P t kv) (a : α) (w : World) : ∀ (es : List MapEntry) (l : List (α × β)) (i : Nat), es.map (fun e => (e.key, e.val)) = l.map (fun p => (kv p.1, vv p.2)) →
    (Instr.findAsking t (kv a) es i).run P w = .ok ((findI l a).map fun p => (i + p.1, vv p.2)) w := by
  intro es
  induction es with
  | nil => intro l i h; cases l with
    | nil => rfl
    | cons p l => cases h
  | cons e es ih =>
    intro l i h
    cases l with
    | nil => cases h
    | cons p l =>
      simp only [List.map_cons, List.cons.injEq, Prod.mk.injEq] at h
      obtain ⟨⟨h1, h2⟩, h3⟩ := h
      unfold Instr.findAsking
      rw [Sem.run_bind, h1, hk.eq]
      simp only [Result.andThen]
      by_cases q : a = p.1
      · simp [q, findI, h2, Sem.run, pure]
      · have q' : ¬ p.1 = a := fun e => q e.symm
        simp only [q, decide_false, Bool.false_eq_true, if_false, findI, q']
        rw [ih l (i + 1) h3]
        cases findI l a with
        | none => rfl
        | some r => simp; omega
theorem findNow_run (hk : KeyOk P t kv) {kd : TypeDesc} (hu : P.underlying t = some kd) (a : α) : ∀ (es : List MapEntry) (l : List (α × β)) (i : Nat), es.map (fun e => (e.key, e.val)) = l.map (fun p => (kv p.1, vv p.2)) →
    Instr.findNow kd (kv a) es i = none ∨ Instr.findNow kd (kv a) es i = some ((findI l a).map fun p => (i + p.1, vv p.2)) := by
  intro es
  induction es with
  | nil => intro l i h; cases l with
    | nil => exact .inr rfl
    | cons p l => cases h
  | cons e es ih =>
    intro l i h
    cases l with
    | nil => cases h
    | cons p l =>
      simp only [List.map_cons, List.cons.injEq, Prod.mk.injEq] at h
      obtain ⟨⟨h1, h2⟩, h3⟩ := h
      unfold Instr.findNow
      rw [h1]
      rcases hk.now a p.1 kd hu with q | q
      · rw [q]; exact .inl rfl
      · rw [q]
        by_cases c : a = p.1
        · right; simp [c, findI, h2]
        · have c' : ¬ p.1 = a := fun e => c e.symm
          simp only [c, decide_false]
          rcases ih l (i + 1) h3 with r | r
          · exact .inl r
          · right; rw [r]
            simp only [findI, c', if_false]
            cases findI l a with
            | none => rfl
            | some r => simp; omega
theorem findKey_run (hk : KeyOk P t kv) (a : α) (w : World) (es : List MapEntry) (l : List (α × β)) (h : es.map (fun e => (e.key, e.val)) = l.map (fun p => (kv p.1, vv p.2))) :
    (Instr.findKey t (kv a) es).run P w = .ok ((findI l a).map fun p => (p.1, vv p.2)) w := by
  obtain ⟨kd, hu⟩ := hk.und
  unfold Instr.findKey
  rw [Sem.run_bind, run_underlying hu]
  simp only [Result.andThen]
  rcases findNow_run hk hu a es l 0 h with q | q
  · rw [q]
    have := findAsking_run hk a w es l 0 h
    simp only [Nat.zero_add] at this
    exact this
  · rw [q]
    simp only [Nat.zero_add]; rfl
theorem findI_mget (l : List (α × β)) (a : α) : (findI l a).map (·.2) = mget l a := by
  induction l with
  | nil => rfl
  | cons p l ih =>
    simp only [findI, mget]
    split
    · rfl
    · rw [← ih]; cases findI l a <;> rfl
end

section
variable {P : Program} {n : Fs} {w0 : Ctx} {N : Cn} {X : Nat → Cn} {R : Cn} {f : Frm} {L : List HP} {D : Option (List (Option Nat))} {rest : List Oper}
  {d : Option Tmp} {ty : TypeId} {pos : String} {af : Array Edge} {g : Option (Nat × Bool)} {α β : Type} [DecidableEq α] {kt et : TypeId} {kv : α → Value} {vv : β → Value}
theorem PO.lookup2 {t : TypeId} {x y : Operand} {r : Nat} {l : List (α × β)} {a : α} {z : β} (i : Nat) (hk : KeyOk P kt kv) (hx : ev f x = some (.map (some r))) (hy : ev f y = some (kv a)) (hu : ∀ w, (underlying t).run P w = .ok (.map kt et) w)
    (hz : ∀ w, (zeroValue et).run P w = .ok (vv z) w) (hl : nth L i = some (mapAt kv vv r l)) :
    PO P n w0 f L ⟨d, .lookup t x y true, ty, pos, af, g⟩ (.tuple #[vv ((mget l a).getD z), .bool (mget l a).isSome]) := fun ac w fr s => by
  obtain ⟨h1, ⟨es, clock, hes, hp⟩, hh⟩ := s.pick hl
  have hb : w.heap[r]? = some (.map es clock) := hh r _ (by rw [show h1 = _ from hp]; simp)
  have hf := findKey_run hk a w es.toList l hes
  have hgo : (getObj r).run P w = .ok (.map es clock) w := by simp [getObj, Sem.run, hb]
  have hso : ∀ o, (setObj r o).run P w = .ok () { w with heap := w.heap.setIfInBounds r o } := fun o => by simp [setObj, Sem.run, hb]
  simp only [execOp, fr.ev hx, fr.ev hy]
  have : (Instr.lookup t (.map (some r)) (kv a) true).run P w = .ok (.tuple #[vv ((mget l a).getD z), .bool (mget l a).isSome]) w := by
    unfold Instr.lookup
    rw [Sem.run_bind, hu]
    simp only [Result.andThen]
    rw [← findI_mget]
    cases hfi : findI l a with
    | none => simp [hgo, hk.check, hf, hfi, hz]
    | some p => simp [hgo, hk.check, hf, hfi]
  have h2 : Sem.run P (Instr.lookup t (.map (some r)) (kv a) true >>= fun z => pure (Next.value z)) w = .ok (.value (.tuple #[vv ((mget l a).getD z), .bool (mget l a).isSome])) w := by
    rw [Sem.run_bind, this]; rfl
  exact h2
theorem PO.lookup1 {t : TypeId} {x y : Operand} {r : Nat} {l : List (α × β)} {a : α} {z : β} (i : Nat) (hk : KeyOk P kt kv) (hx : ev f x = some (.map (some r))) (hy : ev f y = some (kv a)) (hu : ∀ w, (underlying t).run P w = .ok (.map kt et) w)
    (hz : ∀ w, (zeroValue et).run P w = .ok (vv z) w) (hl : nth L i = some (mapAt kv vv r l)) :
    PO P n w0 f L ⟨d, .lookup t x y false, ty, pos, af, g⟩ (vv ((mget l a).getD z)) := fun ac w fr s => by
  obtain ⟨h1, ⟨es, clock, hes, hp⟩, hh⟩ := s.pick hl
  have hb : w.heap[r]? = some (.map es clock) := hh r _ (by rw [show h1 = _ from hp]; simp)
  have hf := findKey_run hk a w es.toList l hes
  have hgo : (getObj r).run P w = .ok (.map es clock) w := by simp [getObj, Sem.run, hb]
  have hso : ∀ o, (setObj r o).run P w = .ok () { w with heap := w.heap.setIfInBounds r o } := fun o => by simp [setObj, Sem.run, hb]
  simp only [execOp, fr.ev hx, fr.ev hy]
  have : (Instr.lookup t (.map (some r)) (kv a) false).run P w = .ok (vv ((mget l a).getD z)) w := by
    unfold Instr.lookup
    rw [Sem.run_bind, hu]
    simp only [Result.andThen]
    rw [← findI_mget]
    cases hfi : findI l a with
    | none => simp [hgo, hk.check, hf, hfi, hz]
    | some p => simp [hgo, hk.check, hf, hfi]
  have h2 : Sem.run P (Instr.lookup t (.map (some r)) (kv a) false >>= fun z => pure (Next.value z)) w = .ok (.value (vv ((mget l a).getD z))) w := by
    rw [Sem.run_bind, this]; rfl
  exact h2
theorem EO.makeMap {t : TypeId} : EO P n w0 f L ⟨d, .makeMap t none, ty, pos, af, g⟩ fun v L' => ∃ b, v = .map (some b) ∧ L' = L ++ [mapAt kv vv b []] := by
  intro Q hE K a w fr s hK
  left
  unfold Oper.wp
  have : (execOp a.eval ⟨d, .makeMap t none, ty, pos, af, g⟩).run P w = .ok (.value (.map (some w.heap.size))) (w.alloc (.map #[] 0)) := by
    simp [execOp, Instr.makeMap, newObj, Sem.run]
  rw [this]
  refine hK _ _ _ ⟨w.heap.size, rfl, rfl⟩ ?_
  have := s.alloc (.map #[] 0)
  obtain ⟨b, hp, q, hs⟩ := this
  refine ⟨b, hp, q, ?_⟩
  rw [sep_append, sep_one] at hs ⊢
  obtain ⟨h1, h2, dd, e, a1, a2⟩ := hs
  exact ⟨h1, h2, dd, e, a1, #[], 0, rfl, a2⟩
theorem Sat.mono1 {w : World} {A B : HP} {M : List HP} (s : Sat w0 (A :: M) w) (h : ∀ q : Hp, A q → B q) : Sat w0 (B :: M) w := by
  obtain ⟨b, hp, q, h1, h2, dd, e, a1, a2⟩ := s
  exact ⟨b, hp, q, h1, h2, dd, e, h _ a1, a2⟩
theorem Sat.split {w : World} {i : Nat} {A : HP} (s : Sat w0 L w) (hl : nth L i = some A) : ∃ h1 : Hp, A h1 ∧ Sat w0 ((fun h => h = h1) :: delN L i) w := by
  obtain ⟨b, hp, q, hs⟩ := s
  rw [sep_nth hl] at hs
  obtain ⟨h1, h2, dd, e, a1, a2⟩ := hs
  exact ⟨h1, a1, b, hp, q, h1, h2, dd, e, rfl, a2⟩
theorem Sat.join {w : World} {i : Nat} {A B : HP} (hl : nth L i = some A) (s : Sat w0 (B :: delN L i) w) : Sat w0 (setN L i B) w :=
  s.eq (by rw [sep_cons]; exact (sep_setN B hl).symm)
theorem Sat.upd {w : World} {i b : Nat} {A B : HP} {o' : Obj} (s : Sat w0 L w) (hl : nth L i = some A) (hA : ∀ h : Hp, A h → ∃ q, pt b q h) (hB : ∀ h : Hp, pt b o' h → B h) :
    Sat w0 (setN L i B) { w with heap := w.heap.setIfInBounds b o' } := by
  obtain ⟨h1, ha, s1⟩ := s.split hl
  obtain ⟨q, hq⟩ := hA h1 ha
  have s2 : Sat w0 (pt b q :: delN L i) w := s1.mono1 (fun h e => by rw [show h = h1 from e]; exact hq)
  have s3 := s2.put (i := 0) (b := b) (o := q) rfl o'
  exact Sat.join hl (s3.mono1 hB)
theorem findI_lt : ∀ {l : List (α × β)} {a : α} {p : Nat × β}, findI l a = some p → p.1 < l.length ∧ l[p.1]? = some (a, p.2) := by
  intro l
  induction l with
  | nil => intro a p h; cases h
  | cons q l ih =>
    intro a p h
    simp only [findI] at h
    split at h
    · rename_i e; cases h; subst e; simp
    · cases hf : findI l a with
      | none => rw [hf] at h; cases h
      | some r =>
        rw [hf] at h; cases h
        obtain ⟨h1, h2⟩ := ih hf
        exact ⟨by simp; omega, by simpa using h2⟩
theorem mput_some : ∀ {l : List (α × β)} {a : α} {p : Nat × β} (b : β), findI l a = some p → mput l a b = l.set p.1 (a, b) := by
  intro l
  induction l with
  | nil => intro a p b h; cases h
  | cons q l ih =>
    intro a p b h
    simp only [findI] at h
    unfold mput
    split at h
    · rename_i e; cases h; subst e; simp
    · rename_i e
      cases hf : findI l a with
      | none => rw [hf] at h; cases h
      | some r => rw [hf] at h; cases h; simp [e, ih b hf]
theorem mput_none : ∀ {l : List (α × β)} {a : α} (b : β), findI l a = none → mput l a b = l ++ [(a, b)] := by
  intro l
  induction l with
  | nil => intro a b _; rfl
  | cons q l ih =>
    intro a b h
    simp only [findI] at h
    unfold mput
    split at h
    · cases h
    · rename_i e
      cases hf : findI l a with
      | none => simp [e, ih b hf]
      | some r => rw [hf] at h; cases h
theorem EO.mapUpdate {t : TypeId} {x y z : Operand} {r : Nat} {l : List (α × β)} {a : α} {b : β} (i : Nat) (M : List HP) (hk : KeyOk P kt kv) (hx : ev f x = some (.map (some r))) (hy : ev f y = some (kv a)) (hz : ev f z = some (vv b))
    (hu : ∀ w, (underlying t).run P w = .ok (.map kt et) w) (hl : nth L i = some (mapAt kv vv r l)) (hM : setN L i (mapAt kv vv r (mput l a b)) = M) :
    EO P n w0 f L ⟨none, .mapUpdate t x y z, ty, pos, af, g⟩ fun _ L' => L' = M := by
  intro Q hE K ac w fr s hK
  left
  obtain ⟨h1, ⟨es, clock, hes, hp⟩, hh⟩ := s.pick hl
  have hb : w.heap[r]? = some (.map es clock) := hh r _ (by rw [show h1 = _ from hp]; simp)
  have hf := findKey_run hk a w es.toList l hes
  have hgo : (getObj r).run P w = .ok (.map es clock) w := by simp [getObj, Sem.run, hb]
  have hso : ∀ o, (setObj r o).run P w = .ok () { w with heap := w.heap.setIfInBounds r o } := fun o => by simp [setObj, Sem.run, hb]
  have hlen : es.size = l.length := by have := congrArg List.length hes; simpa using this
  have fin : ∀ (es' : Array MapEntry) (c' : Nat), es'.toList.map (fun e => (e.key, e.val)) = (mput l a b).map (fun p => (kv p.1, vv p.2)) → Sat w0 M { w with heap := w.heap.setIfInBounds r (.map es' c') } := by
    intro es' c' he
    rw [← hM]
    exact s.upd hl (fun h ⟨es, c, _, q⟩ => ⟨_, q⟩) (fun h q => ⟨es', c', he, q⟩)
  unfold Oper.wp
  have hrun : ∀ w', (Instr.mapUpdate t (.map (some r)) (kv a) (vv b)).run P w = .ok () w' → (execOp ac.eval ⟨none, .mapUpdate t x y z, ty, pos, af, g⟩).run P w = .ok .skip w' := by
    intro w' h
    simp only [execOp, fr.ev hx, fr.ev hy, fr.ev hz]
    have : Sem.run P (Instr.mapUpdate t (.map (some r)) (kv a) (vv b) >>= fun _ => pure Next.skip) w = .ok .skip w' := by rw [Sem.run_bind, h]; rfl
    exact this
  cases hfi : findI l a with
  | none =>
    have h2 : (Instr.mapUpdate t (.map (some r)) (kv a) (vv b)).run P w = .ok () { w with heap := w.heap.setIfInBounds r (.map (es.push ⟨kv a, vv b, clock⟩) (clock + 1)) } := by
      unfold Instr.mapUpdate
      rw [Sem.run_bind, hu]
      simp [hgo, hso, hk.check, hf, hfi]
    rw [hrun _ h2]
    exact hK undef _ _ rfl (fin _ _ (by rw [mput_none b hfi]; simp [hes]))
  | some p =>
    obtain ⟨h3, h4⟩ := findI_lt hfi
    have hkey : (es[p.1]?.map (·.key)).getD (kv a) = kv a := by
      have := congrArg (fun l => l[p.1]?) hes
      simp only [List.getElem?_map, h4, Option.map_some] at this
      cases he : es.toList[p.1]? with
      | none => rw [he] at this; cases this
      | some e =>
        rw [he] at this; simp at this
        have he' : es[p.1]? = some e := by simpa using he
        rw [he']; simp [this.1]
    have h2 : (Instr.mapUpdate t (.map (some r)) (kv a) (vv b)).run P w = .ok () { w with heap := w.heap.setIfInBounds r (.map (es.modify p.1 fun e => { e with key := kv a, val := vv b }) clock) } := by
      unfold Instr.mapUpdate
      rw [Sem.run_bind, hu]
      simp only [Result.andThen]
      simp [hgo, hso, hk.check, hf, hfi, Instr.keyThatStays, hkey, hk.stays]
    rw [hrun _ h2]
    refine hK undef _ _ rfl (fin _ _ ?_)
    rw [mput_some b hfi]
    apply List.ext_getElem?
    intro j
    have hj := congrArg (fun l => l[j]?) hes
    simp only [List.getElem?_map] at hj
    rw [List.getElem?_map, List.getElem?_map, Array.getElem?_toList, Array.getElem?_modify, List.getElem?_set]
    by_cases e : p.1 = j
    · subst e
      simp [h3]
      rw [Array.getElem?_eq_getElem (by omega)]
      exact ⟨_, rfl⟩
    · rw [if_neg e, if_neg e, ← hj, Array.getElem?_toList]
/-! ## Appends -/
theorem info_of {t : TypeId} {i : TypeInfo} (h : ∀ w, (typeInfo t).run P w = .ok i w) : P.info? t = some i := by
  have := h default
  unfold typeInfo at this
  cases e : P.info? t with
  | none => simp [e, Sem.run, stuck] at this
  | some j => simp [e, Sem.run] at this; rw [this]
theorem rowAt_of {w : World} {b : Nat} {T : TypeId} {M : Nat} {xs : List Value} {h : Hp} (hr : rowAt b T M xs h) (hh : ∀ c o, h c = some o → w.heap[c]? = some o) :
    ∃ cs : Array Value, cs.size = M ∧ cs.toList.take xs.length = xs ∧ w.heap[b]? = some (.cells cs T (0, 0)) ∧ pt b (.cells cs T (0, 0)) h := by
  obtain ⟨cs, h1, h2, hp⟩ := hr
  exact ⟨cs, h1, h2, hh b _ (by rw [show h = _ from hp]; simp), hp⟩
theorem addr_add (b o n : Nat) : (⟨b, o, none⟩ : Addr).add n = ⟨b, o + n, none⟩ := by
  unfold Addr.add; split
  · rename_i e; subst e; rfl
  · rfl
theorem EO.append1 {x y : Operand} {t e : TypeId} {v : Value} {len k bt : Nat} {xs news : List Value} {ti : TypeInfo} {z : Value} (i j : Nat) (hti : ∀ w, (typeInfo e).run P w = .ok ti w) (hz : ti.zero = some z) (hk : ti.size = k) (hzs : z.cells.size = k)
    (hu : ∀ w, (underlying t).run P w = .ok (.slice e) w) (hut : P.underlying t = some (.slice e)) (hx : ev f x = some v) (hy : ev f y = some (.slice (some ⟨bt, 0, none⟩) 1 1))
    (hl : nth L i = some (slc e k v len xs)) (hj : nth L j = some (pt bt (.cells news.toArray e (0, 0)))) (hn : news.length = k) (hk0 : Nat.blt 0 k = true) (hc : allCell news = true) (hB : (len + 1) * ti.bytes ≤ 140737488355328) (hB' : len + 1 ≤ 140737488355328) :
    EO P n w0 f L ⟨d, .call ⟨.builtin .append, #[x, y], #[t, t]⟩, ty, pos, af, g⟩ fun v' L' => L' = setN L i (slc e k v' (len + 1) (xs ++ news)) := by
  intro Q hE K a w fr s hK
  left
  have hk0' : 0 < k := by simpa [Nat.blt_eq] using hk0
  have hi := info_of hti
  have hbt : w.heap[bt]? = some (.cells news.toArray e (0, 0)) := s.get (i := j) (by rw [← nth_eq]; exact hj)
  have hnews : ∀ q u, news[q]? = some u → w.cell? ((⟨bt, 0, none⟩ : Addr).add q) = some u := fun q u h => by
    rw [addr_add]; simp [World.cell?, hbt, h]
  have hone : ∀ u ∈ news, u.oneCell' = true := fun u hu => by
    have := allCell_mem hc u hu
    cases u <;> first | rfl | cases this
  have hrun : ∀ v' w', (Builtin.append_ #[t, t] ty #[v, .slice (some ⟨bt, 0, none⟩) 1 1]).run P w = .ok v' w' → (execOp a.eval ⟨d, .call ⟨.builtin .append, #[x, y], #[t, t]⟩, ty, pos, af, g⟩).run P w = .ok (.value v') w' := by
    intro v' w' h
    simp [execOp, resolve, fr.ev hx, fr.ev hy, invoke, builtin, h]
  have hnl : news.length = 1 * ti.size := by rw [hn, hk]; omega
  unfold Oper.wp
  obtain ⟨h1, hs, s1⟩ := s.split hl
  have hsub : ∀ c o, h1 c = some o → w.heap[c]? = some o := by
    intro c o hc
    obtain ⟨_, hp, q, h3, h4, _, rfl, e3, _⟩ := s1
    exact q c o (by simp [Hp.un, show h3 = h1 from e3, hc])
  -- a new row
  have grown : ∀ (cap : Nat), len + 1 ≤ cap → cap ≤ maxLen → ∀ (cs : Array Value), cs.size = cap * k → cs.toList.take ((len + 1) * k) = xs ++ news → xs.length = len * k →
      Sat w0 (setN L i (slc e k (.slice (some ⟨w.heap.size, 0, none⟩) (len + 1) cap) (len + 1) (xs ++ news))) (w.drew.alloc (.cells cs e)) := by
    intro cap h2 h3 cs h4 h5 h6
    have s2 := (s1.cut.drew).alloc (.cells cs e)
    refine Sat.join hl ?_
    have s3 : Sat w0 (pt w.heap.size (.cells cs e (0, 0)) :: delN L i) (w.drew.alloc (.cells cs e)) := s2.perm List.perm_append_comm
    refine s3.mono1 fun h hp => .inr ⟨_, cap, rfl, by rw [List.length_append, h6, hn, Nat.add_mul]; omega, h2, h3, cs, h4, ?_, hp⟩
    rw [show (xs ++ news).length = (len + 1) * k from by rw [List.length_append, h6, hn, Nat.add_mul]; omega]; exact h5
  rcases hs with ⟨rfl, rfl, rfl, _⟩ | ⟨b, cap, rfl, hxl, hlc, hcm, hrow⟩
  · have hr := run_append_nil (P := P) w t ty e ti z hut hi hz ⟨bt, 0, none⟩ 1 1 news hnl hnews (by omega) (by omega) (by omega)
    rw [hrun _ _ hr]
    refine hK _ _ _ rfl ?_
    have hge := grownCap_ge w 1 0 e
    have hcm := grownCap_le_maxLen w 1 0 e (by simp [maxLen])
    refine grown _ hge hcm _ ?_ ?_ (by simp)
    · simp only [Array.size_append, List.size_toArray, size_zeroCells, hzs, hn]
      rw [show k + (grownCap w 1 0 e - 1) * k = (1 + (grownCap w 1 0 e - 1)) * k from by rw [Nat.add_mul]; omega]
      congr 1; omega
    · simp only [Array.toList_append, Nat.zero_add, Nat.one_mul, List.nil_append]
      rw [List.take_left' hn]
  · obtain ⟨cs, hcs, htk, hb, hp⟩ := rowAt_of hrow hsub
    by_cases hroom : len + 1 ≤ cap
    · have hfit : len * ti.size + news.length ≤ cs.size := by
        rw [hn, hk, hcs]
        have : (len + 1) * k ≤ cap * k := Nat.mul_le_mul_right _ hroom
        rw [Nat.add_mul] at this; omega
      have hr := run_append_room (P := P) w t ty e ti hut hi b len cap cs hb ⟨bt, 0, none⟩ 1 1 news hnl hnews hone hroom hfit
      rw [hrun _ _ hr]
      refine hK _ _ _ rfl ?_
      have hw : w.setRow b (cs.toList.take (len * ti.size) ++ news ++ cs.toList.drop (len * ti.size + news.length)).toArray = { w with heap := w.heap.setIfInBounds b (.cells (cs.toList.take (len * ti.size) ++ news ++ cs.toList.drop (len * ti.size + news.length)).toArray e (0, 0)) } := by
        unfold World.setRow
        congr 1
        apply Array.ext_getElem?
        intro q
        have hlt : b < w.heap.size := (Array.getElem?_eq_some_iff.1 hb).1
        rw [Array.getElem?_modify, Array.getElem?_setIfInBounds]
        by_cases e1 : b = q
        · subst e1; rw [if_pos rfl, if_pos rfl, hb, if_pos hlt]; rfl
        · rw [if_neg e1, if_neg e1]
      rw [hw]
      have s2 : Sat w0 (pt b (.cells cs e (0, 0)) :: delN L i) w := s1.mono1 (fun h e1 => by rw [show h = h1 from e1]; exact hp)
      have s3 := s2.put (i := 0) rfl (.cells (cs.toList.take (len * ti.size) ++ news ++ cs.toList.drop (len * ti.size + news.length)).toArray e (0, 0))
      refine Sat.join hl (s3.mono1 fun h hp => .inr ⟨b, cap, rfl, by rw [List.length_append, hxl, hn, Nat.add_mul]; omega, hroom, hcm, _, ?_, ?_, hp⟩)
      · simp only [List.size_toArray, List.length_append, List.length_take, List.length_drop, Array.length_toList]
        rw [hk] at *; omega
      · have hx' : cs.toList.take (len * ti.size) = xs := by rw [hk, ← hxl]; exact htk
        rw [hx']
        exact List.take_left
    · have holds : ∀ q u, xs[q]? = some u → w.cell? ((⟨b, 0, none⟩ : Addr).add q) = some u := fun q u h => by
        rw [addr_add, Nat.zero_add]
        exact rowAt_cell hrow hsub (by rw [lnth_eq]; exact h)
      have hr := run_append_grow (P := P) w t ty e ti z hut hi hz ⟨b, 0, none⟩ len cap xs (by rw [hk]; exact hxl) holds ⟨bt, 0, none⟩ 1 1 news hnl hnews (by omega) (by omega) (growslice_fits (by omega) (by simpa using hB))
      rw [hrun _ _ hr]
      refine hK _ _ _ rfl ?_
      have hge := grownCap_ge w (len + 1) cap e
      have hcm2 := grownCap_le_maxLen w (len + 1) cap e (by simp only [maxLen]; omega)
      refine grown _ hge hcm2 _ ?_ ?_ hxl
      · simp only [Array.size_append, List.size_toArray, size_zeroCells, hzs, hn, hxl]
        rw [show len * k + k + (grownCap w (len + 1) cap e - (len + 1)) * k = (len + 1 + (grownCap w (len + 1) cap e - (len + 1))) * k from by simp only [Nat.add_mul]; omega]
        congr 1; omega
      · simp only [Array.toList_append]
        exact List.take_left' (by simp [hxl, hn, Nat.add_mul])
theorem zipIdx_put : ∀ (vs : List Value) (cs : Array Value) (m o : Nat), (vs.zipIdx m).foldl (fun (cs : Array Value) (p : Value × Nat) => cs.setIfInBounds (o + p.2) p.1) cs = putFrom cs (o + m) vs := by
  intro vs
  induction vs with
  | nil => intro cs m o; rfl
  | cons v vs ih => intro cs m o; rw [List.zipIdx_cons, List.foldl_cons, ih]; simp [putFrom, Nat.add_assoc]
theorem putL_all : ∀ (vs cs : List Value), cs.length = vs.length → putL cs 0 vs = vs := by
  intro vs
  induction vs with
  | nil => intro cs h; cases cs with
    | nil => rfl
    | cons _ _ => simp at h
  | cons v vs ih => intro cs h; cases cs with
    | nil => simp at h
    | cons c cs => simp only [putL]; rw [ih cs (by simpa using h)]
theorem EO.buildSlice1 {t e : TypeId} {x : Operand} {v : Value} {k : Nat} {z : Value} (hx : ev f x = some v) (hu : ∀ w, (underlying t).run P w = .ok (.slice e) w) (hs : ∀ w, (sizeOf e).run P w = .ok k w) (hz : ∀ w, (zeroValue e).run P w = .ok z w)
    (hk : Nat.blt 0 k = true) (hk2 : Nat.ble k 1000 = true) (hv : v.cells.size = k) (hzs : z.cells.size = k) :
    EO P n w0 f L ⟨d, .buildSlice t 1 #[(0, x)], ty, pos, af, g⟩ fun u L' => ∃ b, u = .slice (some ⟨b, 0, none⟩) 1 1 ∧ L' = L ++ [pt b (.cells v.cells e (0, 0))] := by
  intro Q hE K a w fr s hK
  left
  have hk' : 0 < k := by simpa [Nat.blt_eq] using hk
  have hk2' : k ≤ 1000 := Nat.le_of_ble_eq_true hk2
  unfold Oper.wp
  have hfill : Instr.fill (fun i => some (i * k, k)) ((Array.range (1 * k)).map (z.cells[· % z.cells.size]!)) [(0, v)] = some v.cells := by
    simp only [Instr.fill]
    rw [if_neg (by simp [hv])]
    congr 1
    apply Array.ext'
    rw [← Array.foldl_toList, Array.toList_zipIdx]
    have := zipIdx_put v.cells.toList ((Array.range (1 * k)).map (z.cells[· % z.cells.size]!)) 0 0
    simp only [Nat.zero_mul]
    refine (congrArg Array.toList this).trans ?_
    rw [putFrom_eq]
    simp only [Nat.add_zero]
    rw [putL_all _ _ (by simp [hv])]
  have hr : (execOp a.eval ⟨d, .buildSlice t 1 #[(0, x)], ty, pos, af, g⟩).run P w = .ok (.value (.slice (some ⟨w.heap.size, 0, none⟩) 1 1)) (w.alloc (.cells v.cells e)) := by
    have h24 : ¬ (1 * k > 2 ^ 24) := by omega
    have h0 : ¬ (1 * k = 0) := by omega
    have : (Instr.buildSlice t 1 #[(0, v)]).run P w = .ok (.slice (some ⟨w.heap.size, 0, none⟩) 1 1) (w.alloc (.cells v.cells e)) := by
      unfold Instr.buildSlice
      rw [Sem.run_bind, hu]
      simp only [Result.andThen]
      rw [Sem.run_bind, hs]
      simp only [Result.andThen]
      rw [if_neg h24]
      simp only [h0, if_false]
      simp only [Sem.run_bind, hz, Sem.run_pure, Result.andThen]
      rw [hfill]
      simp [newRow, newObj, Sem.run]
    simp [execOp, fr.ev hx, this]
  rw [hr]
  exact hK _ _ _ ⟨w.heap.size, rfl, rfl⟩ (s.alloc _)
theorem EO.appendL {α : Type} {c : α → List Value} {k : Nat} {x y : Operand} {t e : TypeId} {v : Value} {bt by_ : Nat} {l : List α} {a : α} {nc : List Value} {ti : TypeInfo} {z : Value} (i j : Nat) (hc : ∀ a, (c a).length = k) (hti : ∀ w, (typeInfo e).run P w = .ok ti w) (hz : ti.zero = some z) (hk : ti.size = k) (hby : ti.bytes = by_) (hzs : z.cells.size = k)
    (hu : ∀ w, (underlying t).run P w = .ok (.slice e) w) (hut : P.underlying t = some (.slice e)) (hx : ev f x = some v) (hy : ev f y = some (.slice (some ⟨bt, 0, none⟩) 1 1))
    (hl : nth L i = some (slc e k v l.length (fl c l))) (hj : nth L j = some (pt bt (.cells nc.toArray e (0, 0)))) (hnc : c a = nc) (hk0 : Nat.blt 0 k = true) (hcc : allCell nc = true) (hb0 : Nat.blt 0 by_ = true) (hB : (l.length + 1) * by_ ≤ 140737488355328) :
    EO P n w0 f L ⟨d, .call ⟨.builtin .append, #[x, y], #[t, t]⟩, ty, pos, af, g⟩ fun v' L' => L' = setN L i (slc e k v' (l ++ [a]).length (fl c (l ++ [a]))) := by
  subst hnc
  have hb0' : 0 < by_ := by simpa [Nat.blt_eq] using hb0
  have := EO.append1 (d := d) (ty := ty) (pos := pos) (af := af) (g := g) (w0 := w0) (n := n) i j hti hz hk hzs hu hut hx hy hl hj (hc a) hk0 hcc (by rw [hby]; exact hB) (Nat.le_trans (Nat.le_mul_of_pos_right _ hb0') hB)
  rw [← fl_snoc] at this
  rw [show (l ++ [a]).length = l.length + 1 from by simp]
  exact this
end
theorem slc_cells {T : TypeId} {k len : Nat} {v : Value} {xs : List Value} {h : Hp} (s : slc T k v len xs h) : v.cells = #[v] ∧ allCell [v] = true := by
  rcases s with ⟨rfl, _⟩ | ⟨b, cap, rfl, _⟩ <;> exact ⟨rfl, rfl⟩
section
variable {P : Program} {n : Fs} {w0 : Ctx} {f : Frm} {L : List HP} {ty : TypeId} {pos : String} {af : Array Edge} {g : Option (Nat × Bool)}
/-- A store of a slice's value: the heap's part tells that it is one cell. -/
theorem EO.storeS {t : TypeId} {x y : Operand} {b o k len : Nat} {cs : Array Value} {T e : TypeId} {v : Value} {xs : List Value} (i j : Nat) (M : List HP) (hx : ev f x = some (.pointer (some ⟨b, o, none⟩))) (hy : ev f y = some v)
    (hj : nth L j = some (slc e k v len xs)) (hz : ∀ w, (sizeOf t).run P w = .ok 1 w) (hl : nth L i = some (pt b (.cells cs T (0, 0)))) (hk : Nat.ble (o + 1) cs.size = true)
    (hM : setN L i (pt b (.cells (putL cs.toList o [v]).toArray T (0, 0))) = M) :
    EO P n w0 f L ⟨none, .store t x y, ty, pos, af, g⟩ fun _ L' => L' = M := by
  intro Q hE K a w fr s hK
  obtain ⟨h1, hs, _⟩ := s.pick hj
  obtain ⟨e1, e2⟩ := slc_cells hs
  exact EO.store i M hx hy (by rw [e1]; exact hz) hl (by rw [e1]; exact e2) (by rw [e1]; exact hk) (by rw [e1]; exact hM) Q hE K a w fr s hK
end
/-- Parts of a literal. -/
def evp (f : Frm) : List (Nat × Operand) → Option (List (Nat × Value))
  | [] => some []
  | (i, x) :: xs => match ev f x, evp f xs with
    | some v, some vs => some ((i, v) :: vs)
    | _, _ => none
theorem Fr.evp {n : Fs} {f : Frm} {a : Act} (h : Fr n f a) : ∀ {xs : List (Nat × Operand)} {vs : List (Nat × Value)}, evp f xs = some vs → xs.map (fun p => (p.1, a.eval p.2)) = vs := by
  intro xs
  induction xs with
  | nil => intro vs e; simp [Proofs.YtlnionilhagenaaGreatDoor.evp] at e; subst e; rfl
  | cons x xs ih =>
    intro vs e
    obtain ⟨i, x⟩ := x
    simp only [Proofs.YtlnionilhagenaaGreatDoor.evp] at e
    split at e
    · rename_i v us e1 e2
      cases e
      rw [List.map_cons, ih e2, h.ev e1]
    · cases e
section
variable {P : Program} {n : Fs} {w0 : Ctx} {f : Frm} {L : List HP} {d : Option Tmp} {ty : TypeId} {pos : String} {af : Array Edge} {g : Option (Nat × Bool)}
theorem PO.build {t : TypeId} {ps : Array (Nat × Operand)} {vs : List (Nat × Value)} {v : Value} (hx : evp f ps.toList = some vs) (h : ∀ w, (Instr.build t vs.toArray).run P w = .ok v w) :
    PO P n w0 f L ⟨d, .build t ps, ty, pos, af, g⟩ v := fun a w fr _ => by
  have hm : ps.map (fun p => (p.1, a.eval p.2)) = vs.toArray := by
    apply Array.ext'; rw [Array.toList_map]; exact fr.evp hx
  simp only [execOp]
  have : Sem.run P (Instr.build t (ps.map fun p => (p.1, a.eval p.2)) >>= fun z => pure (Next.value z)) w = .ok (.value v) w := by rw [hm, Sem.run_bind, h]; rfl
  exact this
end

/-! ## A range over a string; loops whose rounds leave something behind -/
section
variable {P : Program} {n : Fs} {w0 : Ctx} {N : Cn} {X : Nat → Cn} {R : Cn} {f : Frm} {L : List HP} {d : Option Tmp} {ty : TypeId} {pos : String} {af : Array Edge} {g : Option (Nat × Bool)}
theorem EO.rangeS {t : TypeId} {x : Operand} {s : ByteArray} (hx : ev f x = some (.string s)) (hu : ∀ w, (underlying t).run P w = .ok .string w) :
    EO P n w0 f L ⟨d, .range t x, ty, pos, af, g⟩ fun v L' => ∃ b, v = .pointer (some ⟨b, 0, none⟩) ∧ L' = L ++ [pt b (.stringIter s 0)] :=
  EO.new (fun a w fr _ => by simp [execOp, fr.ev hx, Instr.range, hu, newObj, Sem.run])
theorem EO.nextT {x : Operand} {s : ByteArray} {q b : Nat} (i : Nat) (M : List HP) (hx : ev f x = some (.pointer (some ⟨b, 0, none⟩))) (hl : nth L i = some (pt b (.stringIter s q))) (hq : decide (q < s.size) = true)
    (hM : setN L i (pt b (.stringIter s (q + (Utf8.decode s q).2))) = M) :
    EO P n w0 f L ⟨d, .next x true, ty, pos, af, g⟩ fun v L' => v = .tuple #[.bool true, .int .i64 (q : Int), .int .i32 ((Utf8.decode s q).1 : Int)] ∧ L' = M := by
  intro Q hE K a w fr st hK
  left
  have hl' : L[i]? = some (pt b (.stringIter s q)) := by rw [← nth_eq]; exact hl
  have hb := st.get hl'
  have hq' : q < s.size := of_decide_eq_true hq
  have hr : (execOp a.eval ⟨d, .next x true, ty, pos, af, g⟩).run P w = .ok (.value (.tuple #[.bool true, .int .i64 (q : Int), .int .i32 ((Utf8.decode s q).1 : Int)])) { w with heap := w.heap.setIfInBounds b (.stringIter s (q + (Utf8.decode s q).2)) } := by
    have hgo : (getObj b).run P w = .ok (.stringIter s q) w := by simp [getObj, Sem.run, hb]
    have hso : ∀ o, (setObj b o).run P w = .ok () { w with heap := w.heap.setIfInBounds b o } := fun o => by simp [setObj, Sem.run, hb]
    simp [execOp, fr.ev hx, Instr.next, hgo, hq', hso, goInt]
  unfold Oper.wp
  rw [hr]
  exact hK _ _ _ ⟨rfl, rfl⟩ (by rw [← hM, setN_eq]; exact st.put hl' _)
theorem PO.nextF {x : Operand} {s : ByteArray} {q b : Nat} (i : Nat) (hx : ev f x = some (.pointer (some ⟨b, 0, none⟩))) (hl : nth L i = some (pt b (.stringIter s q))) (hq : decide (q < s.size) = false) :
    PO P n w0 f L ⟨d, .next x true, ty, pos, af, g⟩ (.tuple #[.bool false]) := fun a w fr st => by
  have hl' : L[i]? = some (pt b (.stringIter s q)) := by rw [← nth_eq]; exact hl
  have hb := st.get hl'
  have hq' : ¬ q < s.size := of_decide_eq_false hq
  have hgo : (getObj b).run P w = .ok (.stringIter s q) w := by simp [getObj, Sem.run, hb]
  simp [execOp, fr.ev hx, Instr.next, hgo, hq']
theorem WO.splitB {D : Option (List (Option Nat))} {rest : List Oper} (b : Bool) (ht : b = true → WO P n w0 D rest N f L) (hf : b = false → WO P n w0 D rest N f L) : WO P n w0 D rest N f L := by
  cases b with
  | true => exact ht rfl
  | false => exact hf rfl
theorem Sat.pre {w : World} {A B : List HP} (s : Sat w0 (A ++ B) w) : Sat w0 A w := by
  have : Sat w0 (B ++ A) w := s.perm List.perm_append_comm
  clear s
  induction B with
  | nil => exact this
  | cons b B ih => exact ih this.cut
theorem WP.loopG {c : Code} (I : Nat → Cn) (k0 : Nat) (h0 : I k0 f L)
    (round : ∀ k f L, I k f L → WP P n w0 c (fun f L => ∃ k' M, k' < k ∧ I k' f M ∧ ∀ w, Sat w0 L w → Sat w0 M w) X R f L) : WP P n w0 (.loop c) N X R f L := by
  refine WP.loop (fun k f L => ∃ M, I k f M ∧ ∀ w, Sat w0 L w → Sat w0 M w) k0 ⟨L, h0, fun _ s => s⟩ ?_
  rintro k f L ⟨M, hI, hs⟩
  exact ((round k f M hI).mono (fun f L ⟨k', M', a, b, c⟩ => ⟨k', a, M', b, c⟩) (fun _ _ _ h => h) (fun _ _ h => h)).heap _ hs
def byteAt (s : ByteArray) (i : Int) : Option Int := if 0 ≤ i then (s[i.toNat]?).map fun b => (b.toNat : Int) else none
theorem PO.idxStr {t : TypeId} {x y : Operand} {s : ByteArray} {k : IntKind} {i v : Int} (hx : ev f x = some (.string s)) (hy : ev f y = some (.int k i)) (hu : ∀ w, (underlying t).run P w = .ok .string w) (hv : byteAt s i = some v) :
    PO P n w0 f L ⟨d, .index t x y, ty, pos, af, g⟩ (.int .u8 v) := fun a w fr _ => by
  unfold byteAt at hv
  split at hv
  · rename_i h0
    cases e : s[i.toNat]? with
    | none => rw [e] at hv; cases hv
    | some b => rw [e] at hv; cases hv; simp [execOp, fr.ev hx, fr.ev hy, Instr.index, asIntOf, hu, h0, e]
  · cases hv
end
end Go.Proofs.YtlnionilhagenaaGreatDoor
