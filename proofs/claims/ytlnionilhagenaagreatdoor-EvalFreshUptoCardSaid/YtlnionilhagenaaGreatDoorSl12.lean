import Derived.Test.YtlnionilhagenaaGreatDoorSl11
import Derived.Lib.ConvBytes
/-! # Slices that are read alone; ways that panic; worlds that only grow -/
namespace Go.Proofs.YtlnionilhagenaaGreatDoor
open Go.RowKit
set_option linter.all false
/-- A world of which the old blocks stand. -/
theorem Sat.grown {w0 w w' : World} {L : List HP} (s : Sat w0 L w) (b : Below w.heap.size w w') : Sat w0 L w' := by
  obtain ⟨bs, h, q, hs⟩ := s
  refine ⟨bs.trans (b.mono (Nat.zero_le _)), h, fun c o e => ?_, hs⟩
  have h0 := q c o e
  have hlt : c < w.heap.size := by
    rcases Nat.lt_or_ge c w.heap.size with q | q
    · exact q
    · simp [Array.getElem?_eq_none q] at h0
  rw [b.block c hlt]; exact h0
/-- .. and one block more. -/
theorem Sat.grownPt {w0 w w' : World} {L : List HP} {b : Nat} {o : Obj} (s : Sat w0 L w) (bl : Below w.heap.size w w') (hb : w.heap.size ≤ b) (ho : w'.heap[b]? = some o) : Sat w0 (L ++ [pt b o]) w' := by
  obtain ⟨bs, h, q, hs⟩ := s
  have old : ∀ c o, h c = some o → c < w.heap.size := fun c o e => by
    have h0 := q c o e
    rcases Nat.lt_or_ge c w.heap.size with q | q
    · exact q
    · simp [Array.getElem?_eq_none q] at h0
  refine ⟨bs.trans (bl.mono (Nat.zero_le _)), Hp.un h (fun c => if c = b then some o else none), fun c p hc => ?_, ?_⟩
  · unfold Hp.un at hc
    cases e : h c with
    | some q' =>
      rw [e] at hc; simp at hc; subst hc
      rw [bl.block c (old c q' e)]; exact q c q' e
    | none =>
      rw [e] at hc; simp at hc
      obtain ⟨rfl, rfl⟩ := hc
      exact ho
  · rw [sep_append, sep_one]
    refine ⟨h, _, fun c => ?_, rfl, hs, rfl⟩
    by_cases e : c = b
    · left
      cases e' : h c with
      | none => rfl
      | some p => have := old c p e'; omega
    · right; simp [e]
theorem Sat.cutTo {w0 w : World} {L M : List HP} (i : Nat) (h : L.take i = M) (s : Sat w0 L w) : Sat w0 M w := by
  subst h
  have : Sat w0 (L.take i ++ L.drop i) w := by rw [List.take_append_drop]; exact s
  exact Sat.pre (w0 := ⟨w0, fun _ _ _ => False⟩) this
/-- A slice that is read alone: wherever it begins. -/
def slw (T : TypeId) (k : Nat) (v : Value) (len : Nat) (xs : List Value) : HP := fun h =>
  ∃ a cap, v = .slice a len cap ∧ len ≤ cap ∧ xs.length = len * k ∧ (len = 0 ∨ ∃ b o cs T' m, a = some ⟨b, o, none⟩ ∧ (cs.toList.drop o).take xs.length = xs ∧ pt b (.cells cs T' m) h)
theorem slc_slw {T : TypeId} {k : Nat} {v : Value} {len : Nat} {xs : List Value} {h : Hp} (s : slc T k v len xs h) : slw T k v len xs h := by
  rcases s with ⟨rfl, rfl, rfl, _⟩ | ⟨b, cap, rfl, h1, h2, h3, cs, h4, h5, h6⟩
  · exact ⟨none, 0, rfl, Nat.le_refl _, by simp, .inl rfl⟩
  · exact ⟨_, cap, rfl, h2, h1, .inr ⟨b, 0, cs, T, _, rfl, by simpa using h5, h6⟩⟩
def offs : Value → Nat
  | .slice (some a) _ _ => a.off
  | _ => 0
/-- The rest of a slice. -/
def sliceFrom (k : Nat) : Value → Nat → Value
  | .slice a len cap, m => .slice (if cap = m then a else a.map (·.add (m * k))) (len - m) (cap - m)
  | v, _ => v
/-- Bytes as numbers. -/
def bytesL (s : ByteArray) : List Int := s.data.toList.map fun b => (b.toNat : Int)
def u8c (n : Int) : List Value := [.int .u8 n]
section
variable {α : Type} {c : α → List Value} {k : Nat}
variable {P : Program} {n : Fs} {w0 : Ctx} {N : Cn} {X : Nat → Cn} {R : Cn} {f : Frm} {L : List HP} {D : Option (List (Option Nat))} {rest : List Oper}
  {d : Option Tmp} {ty : TypeId} {pos : String} {af : Array Edge} {g : Option (Nat × Bool)} {T : TypeId}
theorem Sat.toW {w : World} {v : Value} {len : Nat} {xs : List Value} (i : Nat) (h : nth L i = some (slc T k v len xs)) (s : Sat w0 L w) : Sat w0 (setN L i (slw T k v len xs)) w := by
  obtain ⟨hp, hs, s1⟩ := s.split h
  exact Sat.join h (s1.mono1 fun q e => by rw [show q = hp from e]; exact slc_slw hs)
/-- A new slice in the place of one that is given up. -/
theorem Sat.moveW {w : World} {v : Value} {len : Nat} {xs : List Value} {A : HP} (i j : Nat) (hj : nth L j = some (slc T k v len xs)) (hi : nth (setN L j emp) i = some A) (s : Sat w0 L w) :
    Sat w0 (setN (setN L j emp) i (slw T k v len xs)) w := by
  obtain ⟨hp, hs, s1⟩ := s.split hj
  have s2' : Sat w0 (slw T k v len xs :: delN L j) w := s1.mono1 fun q e => by rw [show q = hp from e]; exact slc_slw hs
  have s2 : Sat w0 (slw T k v len xs :: setN L j emp) w := s2'.eq (by rw [sep_cons, sep_cons, sep_setN emp hj, emp_star])
  refine (s2.eq (M := A :: slw T k v len xs :: delN (setN L j emp) i) ?_).cut.eq ?_
  · rw [sep_cons, sep_cons, sep_cons, sep_nth hi, star_left]
  · rw [sep_cons, sep_setN _ hi]
theorem PO.lenW {x : Operand} {t e : TypeId} {v : Value} {len : Nat} {xs : List Value} (i : Nat) (hx : ev f x = some v) (hu : ∀ w, (underlying t).run P w = .ok (.slice e) w) (hl : nth L i = some (slw T k v len xs)) :
    PO P n w0 f L ⟨d, .call ⟨.builtin .len, #[x], #[t]⟩, ty, pos, af, g⟩ (.int .i64 (len : Int)) := fun ac w fr s => by
  obtain ⟨h1, ⟨a, cap, rfl, _⟩, _⟩ := s.pick hl
  simp [execOp, resolve, fr.ev hx, invoke, builtin, Builtin.len_, hu, goInt]
theorem PO.idxW {t e : TypeId} {x y : Operand} {v : Value} {l : List α} {kd : IntKind} {q : Int} {a : α} (i : Nat) (hx : ev f x = some v) (hy : ev f y = some (.int kd q))
    (hu : ∀ w, (underlying t).run P w = .ok (.slice e) w) (hz : ∀ w, (sizeOf e).run P w = .ok k w) (hl : nth L i = some (slw T k v l.length (fl c l))) (ha : getI l q = some a) :
    PO P n w0 f L ⟨d, .indexAddr t x y, ty, pos, af, g⟩ (.pointer (some ⟨blk v, offs v + q.toNat * k, none⟩)) := fun ac w fr s => by
  obtain ⟨h0, h1, h2⟩ := getI_lt ha
  obtain ⟨hp, ⟨a', cap, rfl, _, _, hs⟩, _⟩ := s.pick hl
  rcases hs with hz0 | ⟨b, o, cs, T', m, rfl, _⟩
  · omega
  · have hadd : (⟨b, o, none⟩ : Addr).add (q.toNat * k) = ⟨b, o + q.toNat * k, none⟩ := addr_add' _ _ _
    simp [execOp, fr.ev hx, fr.ev hy, Instr.indexAt, asIntOf, hu, h0, h1, hz, hadd, blk, offs]
theorem PO.loadW {t : TypeId} {x : Operand} {v u : Value} {len o : Nat} {xs : List Value} (i : Nat) (hx : ev f x = some (.pointer (some ⟨blk v, offs v + o, none⟩))) (ha : ∀ w, (isAgg t).run P w = .ok false w)
    (hl : nth L i = some (slw T k v len xs)) (hv : lnth xs o = some u) : PO P n w0 f L ⟨d, .load t x, ty, pos, af, g⟩ u := fun a w fr s => by
  obtain ⟨h1, ⟨a', cap, rfl, _, h3, hs⟩, hh⟩ := s.pick hl
  rw [lnth_eq] at hv
  have hlt := (List.getElem?_eq_some_iff.1 hv).1
  rcases hs with hz0 | ⟨b, q, cs, T', m, rfl, h4, h5⟩
  · rw [h3, hz0, Nat.zero_mul] at hlt; exact absurd hlt (Nat.not_lt_zero _)
  · have hx' : ev f x = some (.pointer (some ⟨b, q + o, none⟩)) := hx
    have hb : w.heap[b]? = some (.cells cs T' m) := hh b _ (by rw [show h1 = _ from h5]; simp)
    have hc : w.cell? ⟨b, q + o, none⟩ = some u := by
      have : cs[q + o]? = some u := by
        rw [← h4, List.getElem?_take, if_pos hlt, List.getElem?_drop] at hv
        simpa using hv
      simp [World.cell?, hb, this]
    simp [execOp, fr.ev hx', Instr.loadAt, Instr.sureAddr, loadVar, ha, Go.load, Sem.run, hc]
theorem EO.sliceW {t e : TypeId} {x y : Operand} {v : Value} {l : List α} {kd : IntKind} {m : Int} (i : Nat) (hc : ∀ a, (c a).length = k) (hx : ev f x = some v) (hy : ev f y = some (.int kd m)) (hu : P.underlying t = some (.slice e)) (hz : ∀ w, (sizeOf e).run P w = .ok k w)
    (hl : nth L i = some (slw e k v l.length (fl c l))) (hm : 0 ≤ m ∧ m ≤ l.length) :
    EO P n w0 f L ⟨d, .slice t x (some y) none none, ty, pos, af, g⟩ fun v' L' => v' = sliceFrom k v m.toNat ∧ L' = setN L i (slw e k (sliceFrom k v m.toNat) (l.drop m.toNat).length (fl c (l.drop m.toNat))) := by
  intro Q hE K a w fr s hK
  left
  obtain ⟨h0, h1⟩ := hm
  have hel : P.elem t = e := by simp [Program.elem, hu]
  have hu' : P.underlying t = some (.slice (P.elem t)) := by rw [hel]; exact hu
  obtain ⟨hp, ⟨a', cap, rfl, hcap, hxl, hs⟩, s1⟩ := s.split hl
  have hr : (execOp a.eval ⟨d, .slice t x (some y) none none, ty, pos, af, g⟩).run P w = .ok (.value (sliceFrom k (.slice a' l.length cap) m.toNat)) w := by
    have h := run_slice_l (P := P) w t a' l.length cap hu' kd m h0 (by omega)
    have hs0 : (sliced a' m.toNat l.length cap k) = sliceFrom k (.slice a' l.length cap) m.toNat := by
      simp only [sliced, sliceFrom]
    simp only [execOp, fr.ev hx, fr.ev hy, Option.map, run_sliceAt_slice w t _ _ _ _ hu', Sem.run_bind, h, hel, hz, Result.andThen, hs0]; rfl
  unfold Oper.wp
  rw [hr]
  have hlen : (l.drop m.toNat).length = l.length - m.toNat := by rw [List.length_drop]
  refine hK _ _ _ ⟨rfl, rfl⟩ (Sat.join hl (s1.mono1 fun h e1 => ⟨_, cap - m.toNat, by rw [hlen]; rfl, by omega, fl_len hc _, ?_⟩))
  rw [show h = hp from e1]
  rcases hs with hz0 | ⟨b, o, cs, T', mk_, rfl, h4, h5⟩
  · left; omega
  · by_cases hcm : cap = m.toNat
    · left; omega
    · right
      refine ⟨b, o + m.toNat * k, cs, T', mk_, by simp [hcm, addr_add'], ?_, h5⟩
      have h8 : fl c l = fl c (l.take m.toNat) ++ fl c (l.drop m.toNat) := by rw [← fl_append, List.take_append_drop]
      have h9 : (fl c (l.take m.toNat)).length = m.toNat * k := by rw [fl_len hc, List.length_take, Nat.min_eq_left (by omega)]
      have h10 : (fl c l).drop (m.toNat * k) = fl c (l.drop m.toNat) := by rw [h8, ← h9, List.drop_left]
      rw [← h10]
      conv => rhs; rw [← h4]
      rw [List.drop_take, List.drop_drop, List.length_drop]
theorem EO.storeW {t : TypeId} {x y : Operand} {b o k len : Nat} {cs : Array Value} {T e : TypeId} {v : Value} {xs : List Value} (i j : Nat) (M : List HP) (hx : ev f x = some (.pointer (some ⟨b, o, none⟩))) (hy : ev f y = some v)
    (hj : nth L j = some (slw e k v len xs)) (hz : ∀ w, (sizeOf t).run P w = .ok 1 w) (hl : nth L i = some (pt b (.cells cs T (0, 0)))) (hk : Nat.ble (o + 1) cs.size = true)
    (hM : setN L i (pt b (.cells (putL cs.toList o [v]).toArray T (0, 0))) = M) :
    EO P n w0 f L ⟨none, .store t x y, ty, pos, af, g⟩ fun _ L' => L' = M := by
  intro Q hE K a w fr s hK
  obtain ⟨h1, ⟨a', cap, rfl, _⟩, _⟩ := s.pick hj
  exact EO.store i M hx hy hz hl rfl hk hM Q hE K a w fr s hK
/-- Bytes of a string. -/
theorem EO.bytes {src dst e : TypeId} {x : Operand} {s : ByteArray} {ud : TypeDesc} (hx : ev f x = some (.string s)) (hs : P.underlying src = some ud) (hd : P.underlying dst = some (.slice e)) (he : P.underlying e = some (.int .u8)) :
    EO P n w0 f L ⟨d, .convert src dst x, ty, pos, af, g⟩ fun v L' => L' = L ++ [slw e 1 v (bytesL s).length (fl u8c (bytesL s))] := by
  intro Q hE K a w fr st hK
  left
  have hr : (execOp a.eval ⟨d, .convert src dst x, ty, pos, af, g⟩).run P w = .ok (.value (.slice (some ⟨w.heap.size, 0, none⟩) s.size (grownCap w s.size 0 e))) (Lib.bytesWorld w e s) := by
    have := Lib.run_convert_string_bytes (P := P) w src dst e s hs hd he
    simp only [execOp, fr.ev hx, Sem.run_bind, this, Result.andThen]; rfl
  unfold Oper.wp
  rw [hr]
  have hsz := Lib.bytesWorld_size w e s
  have hfl : ∀ l : List UInt8, fl u8c (l.map fun b => (b.toNat : Int)) = l.map fun b => Value.int .u8 b.toNat := fun l => by
    induction l with
    | nil => rfl
    | cons b l ih => simp only [List.map_cons, fl, u8c, ih]; rfl
  have hlen : (bytesL s).length = s.size := by rw [bytesL, List.length_map, Array.length_toList]; rfl
  have hbl : Below w.heap.size w (Lib.bytesWorld w e s) := ⟨rfl, rfl, rfl, by omega, fun j hj => Lib.bytesWorld_at_old w e s j hj⟩
  have h2 := st.grownPt hbl (Nat.le_refl _) (Lib.bytesWorld_at_new w e s)
  obtain ⟨b, h, q, hs'⟩ := h2
  refine hK _ _ _ rfl ⟨b, h, q, ?_⟩
  rw [sep_append, sep_one] at hs' ⊢
  obtain ⟨k1, k2, dd, e1, a1, a2⟩ := hs'
  refine ⟨k1, k2, dd, e1, a1, some ⟨w.heap.size, 0, none⟩, grownCap w s.size 0 e, by rw [hlen], by rw [hlen]; exact grownCap_ge _ _ _ _, by rw [Nat.mul_one, bytesL, hfl, List.length_map, List.length_map], .inr ⟨_, _, _, _, _, rfl, ?_, a2⟩⟩
  rw [bytesL, hfl, List.drop_zero, Lib.bytesCells, Array.toList_append, Array.toList_map]
  exact List.take_left' (by rw [List.length_map])
end
/-! ## Ways that panic -/
def exc {α β : Type} (x : Option (Except Int α)) (k : α → Option (Except Int β)) : Option (Except Int β) :=
  match x with
  | none => none
  | some (.error q) => some (.error q)
  | some (.ok a) => k a
theorem exc_elim {α β : Type} {x : Option (Except Int α)} {k : α → Option (Except Int β)} {r : Except Int β} (h : exc x k = some r) : (∃ q, x = some (.error q) ∧ r = .error q) ∨ ∃ a, x = some (.ok a) ∧ k a = some r := by
  match x, h with
  | none, h => cases h
  | some (.error q), h => cases h; exact .inl ⟨q, rfl, rfl⟩
  | some (.ok a), h => exact .inr ⟨a, rfl, h⟩
section
variable {P : Program} {n : Fs} {w0 : Ctx} {N : Cn} {X : Nat → Cn} {R : Cn} {f : Frm} {L : List HP} {D : Option (List (Option Nat))} {rest : List Oper}
def nev : HP := fun _ => False
theorem Sat.never {w : World} (i : Nat) (h : nth L i = some nev) (s : Sat w0 L w) : False := by
  obtain ⟨_, a, _⟩ := s.pick h
  exact a
theorem SO.no {o : Oper} {S : Value → List HP → Prop} (h : nth L 0 = some nev) : SO P n w0 D f L o S := fun _ _ _ _ _ _ _ _ s _ => (s.never 0 h).elim
/-- A region of which an operation panics. -/
theorem WP.never {c : Code} (h : WP P n w0 c (fun _ M => nth M 0 = some nev) X R f L) : WP P n w0 c N X R f L :=
  fun Q hE _ hx hr a w fr s => h Q hE (fun _ _ _ _ q _ s => (s.never 0 q).elim) hx hr a w fr s
end
end Go.Proofs.YtlnionilhagenaaGreatDoor
