import Derived.Test.YtlnionilhagenaaGreatDoorSl12
/-! # Copies of slices; calls that only read; operations under a guard that is told -/
namespace Go.Proofs.YtlnionilhagenaaGreatDoor
open Go.RowKit
set_option linter.all false
section
variable {α : Type} {c : α → List Value} {k : Nat}
variable {P : Program} {n : Fs} {w0 : Ctx} {N : Cn} {X : Nat → Cn} {R : Cn} {f : Frm} {L : List HP} {D : Option (List (Option Nat))} {rest : List Oper}
  {d : Option Tmp} {ty : TypeId} {pos : String} {af : Array Edge} {g : Option (Nat × Bool)} {T : TypeId}
theorem EO.buildSlice0 {t e : TypeId} (hu : ∀ w, (underlying t).run P w = .ok (.slice e) w) (hs : ∀ w, (sizeOf e).run P w = .ok k w) :
    EO P n w0 f L ⟨d, .buildSlice t 0 #[], ty, pos, af, g⟩ fun u L' => ∃ b, u = .slice (some ⟨b, 0, none⟩) 0 0 ∧ L' = L ++ [pt b (.cells #[] e (0, 0))] := by
  intro Q hE K a w fr s hK
  left
  unfold Oper.wp
  have hr : (execOp a.eval ⟨d, .buildSlice t 0 #[], ty, pos, af, g⟩).run P w = .ok (.value (.slice (some ⟨w.heap.size, 0, none⟩) 0 0)) (w.alloc (.cells #[] e)) := by
    have : (Instr.buildSlice t 0 #[]).run P w = .ok (.slice (some ⟨w.heap.size, 0, none⟩) 0 0) (w.alloc (.cells #[] e)) := by
      unfold Instr.buildSlice
      rw [Sem.run_bind, hu]
      simp only [Result.andThen]
      rw [Sem.run_bind, hs]
      simp [Instr.fill, newRow, newObj, Sem.run]
      rw [show (Array.range 0) = #[] from Array.eq_empty_of_size_eq_zero (by simp), Array.map_empty]
    simp [execOp, this]
  rw [hr]
  exact hK _ _ _ ⟨w.heap.size, rfl, rfl⟩ (s.alloc _)
theorem EO.buildSliceL {t e : TypeId} {m : Nat} {z : Value} {ps : Array (Nat × Operand)} {qs : List (Nat × Value)} {cells : Array Value} {l : List α} (hu : ∀ w, (underlying t).run P w = .ok (.slice e) w) (hs : ∀ w, (sizeOf e).run P w = .ok k w) (hz : ∀ w, (zeroValue e).run P w = .ok z w)
    (hp : ∀ a, Fr n f a → (ps.map fun p => (p.1, a.eval p.2)).toList = qs) (h0 : Nat.blt 0 (m * k) = true) (h24 : Nat.ble (m * k) 16777216 = true) (hf : Instr.fill (fun i => some (i * k, k)) ((Array.range (m * k)).map (z.cells[· % z.cells.size]!)) qs = some cells) (hl : cells.toList = fl c l)
    (hc : ∀ a, (c a).length = k) (hm : l.length = m) (hml : Nat.ble m maxLen = true) :
    EO P n w0 f L ⟨d, .buildSlice t m ps, ty, pos, af, g⟩ fun u L' => L' = L ++ [slc e k u l.length (fl c l)] := by
  intro Q hE K a w fr s hK
  left
  unfold Oper.wp
  have h0' : 0 < m * k := by simpa [Nat.blt_eq] using h0
  have h24' : m * k ≤ 16777216 := Nat.le_of_ble_eq_true h24
  have hq := hp a fr
  have hr : (execOp a.eval ⟨d, .buildSlice t m ps, ty, pos, af, g⟩).run P w = .ok (.value (.slice (some ⟨w.heap.size, 0, none⟩) m m)) (w.alloc (.cells cells e)) := by
    have : (Instr.buildSlice t m (ps.map fun p => (p.1, a.eval p.2))).run P w = .ok (.slice (some ⟨w.heap.size, 0, none⟩) m m) (w.alloc (.cells cells e)) := by
      unfold Instr.buildSlice
      rw [Sem.run_bind, hu]
      simp only [Result.andThen]
      rw [Sem.run_bind, hs]
      simp only [Result.andThen]
      rw [if_neg (by omega)]
      have h00 : ¬ (m * k = 0) := by omega
      simp only [h00, if_false, Sem.run_bind, hz, Sem.run_pure, Result.andThen]
      rw [hq, hf]
      simp [newRow, newObj, Sem.run]
    simp only [execOp, Sem.run_bind, this, Result.andThen]; rfl
  rw [hr]
  have s1 := s.alloc (.cells cells e)
  refine hK _ _ _ rfl ?_
  obtain ⟨b, h, q, hs'⟩ := s1
  refine ⟨b, h, q, ?_⟩
  rw [sep_append, sep_one] at hs' ⊢
  obtain ⟨k1, k2, dd, e1, a1, a2⟩ := hs'
  have hsz : cells.size = m * k := by rw [← Array.length_toList, hl, fl_len hc, hm]
  refine ⟨k1, k2, dd, e1, a1, .inr ⟨_, m, by rw [hm], fl_len hc _, by omega, Nat.le_of_ble_eq_true hml, cells, hsz, ?_, a2⟩⟩
  rw [hl]; exact List.take_length
/-- A slice copied behind an empty one. -/
theorem EO.append0 {x y : Operand} {t e : TypeId} {v : Value} {b by_ : Nat} {l : List α} {ti : TypeInfo} {z : Value} (i j : Nat) (hc : ∀ a, (c a).length = k) (hti : ∀ w, (typeInfo e).run P w = .ok ti w) (hz : ti.zero = some z) (hk : ti.size = k) (hby : ti.bytes = by_) (hzs : z.cells.size = k)
    (hut : P.underlying t = some (.slice e)) (hx : ev f x = some (.slice (some ⟨b, 0, none⟩) 0 0)) (hy : ev f y = some v)
    (hi : nth L i = some (pt b (.cells #[] e (0, 0)))) (hj : nth L j = some (slc e k v l.length (fl c l))) (hk0 : Nat.blt 0 k = true) (hb0 : Nat.blt 0 by_ = true) (hB : l.length * by_ ≤ 140737488355328) :
    EO P n w0 f L ⟨d, .call ⟨.builtin .append, #[x, y], #[t, t]⟩, ty, pos, af, g⟩ fun v' L' => L' = setN L i (slc e k v' l.length (fl c l)) := by
  intro Q hE K a w fr s hK
  left
  have hk0' : 0 < k := by simpa [Nat.blt_eq] using hk0
  have hb0' : 0 < by_ := by simpa [Nat.blt_eq] using hb0
  have hinf := info_of hti
  have hlen : l.length ≤ 140737488355328 := Nat.le_trans (Nat.le_mul_of_pos_right _ hb0') hB
  obtain ⟨h1, hs, hh⟩ := s.pick hj
  obtain ⟨hi1, hp1, s1⟩ := s.split hi
  have hb : w.heap[b]? = some (.cells #[] e (0, 0)) := s.get (i := i) (by rw [← nth_eq]; exact hi)
  have hrun : ∀ v' w', (Builtin.append_ #[t, t] ty #[.slice (some ⟨b, 0, none⟩) 0 0, v]).run P w = .ok v' w' → (execOp a.eval ⟨d, .call ⟨.builtin .append, #[x, y], #[t, t]⟩, ty, pos, af, g⟩).run P w = .ok (.value v') w' := by
    intro v' w' h
    simp [execOp, resolve, fr.ev hx, fr.ev hy, invoke, builtin, h]
  unfold Oper.wp
  have stay : l = [] → ∀ w', Sat w0 L w' → Sat w0 (setN L i (slc e k (.slice (some ⟨b, 0, none⟩) 0 0) l.length (fl c l))) w' := by
    intro hl w' s'
    subst hl
    obtain ⟨hi1, hp1, s1⟩ := s'.split hi
    refine Sat.join hi (s1.mono1 fun h e1 => .inr ⟨b, 0, rfl, by simp [fl], Nat.le_refl _, Nat.zero_le _, #[], by simp, by simp [fl], by rw [show h = hi1 from e1]; exact hp1⟩)
  rcases hs with ⟨rfl, h2, _, _⟩ | ⟨b2, cap, rfl, hxl, hlc, hcm, hrow⟩
  · have hl : l = [] := List.length_eq_zero_iff.1 h2
    have hr : (Builtin.append_ #[t, t] ty #[.slice (some ⟨b, 0, none⟩) 0 0, .slice none 0 0]).run P w = .ok (.slice (some ⟨b, 0, none⟩) 0 0) w := by
      simp [Builtin.append_, run_underlying hut, sizeOf, typeInfo, hinf, Builtin.lenOf, Builtin.firstCells, storeCells, Sem.run]
    rw [hrun _ _ hr]
    exact hK _ _ _ rfl (stay hl w s)
  · obtain ⟨cs, hcs, htk, hb2, hp⟩ := rowAt_of hrow hh
    have hnews : ∀ q u, (fl c l)[q]? = some u → w.cell? ((⟨b2, 0, none⟩ : Addr).add q) = some u := fun q u h => by
      rw [addr_add, Nat.zero_add]
      exact rowAt_cell hrow hh (by rw [lnth_eq]; exact h)
    by_cases hl : l = []
    · subst hl
      have hr := run_append_room (P := P) w t ty e ti hut hinf b 0 0 #[] hb ⟨b2, 0, none⟩ 0 cap [] (by simp) (fun q u h => by simp at h) (fun u h => by simp at h) (by simp) (by simp)
      simp only [Nat.add_zero] at hr
      have hnil : ((#[] : Array Value).toList.take (0 * ti.size) ++ [] ++ (#[] : Array Value).toList.drop (0 * ti.size + ([] : List Value).length)).toArray = #[] := by simp
      rw [hnil] at hr
      have hw : w.setRow b #[] = { w with heap := w.heap.setIfInBounds b (.cells #[] e (0, 0)) } := by
        unfold World.setRow
        congr 1
        apply Array.ext_getElem?
        intro q
        have hlt : b < w.heap.size := (Array.getElem?_eq_some_iff.1 hb).1
        rw [Array.getElem?_modify, Array.getElem?_setIfInBounds]
        by_cases e1 : b = q
        · subst e1; rw [if_pos rfl, if_pos rfl, hb, if_pos hlt]; rfl
        · rw [if_neg e1, if_neg e1]
      have s2 := s.put (i := i) (by rw [← nth_eq]; exact hi) (.cells #[] e (0, 0))
      rw [← setN_eq, setN_self hi] at s2
      rw [hrun _ _ hr, hw]
      exact hK _ _ _ rfl (stay rfl _ s2)
    · have hpos : 0 < l.length := by cases l with
        | nil => exact absurd rfl hl
        | cons _ _ => simp
      have hr := run_append_grow (P := P) w t ty e ti z hut hinf hz ⟨b, 0, none⟩ 0 0 [] (by simp) (fun q u h => by simp at h) ⟨b2, 0, none⟩ l.length cap (fl c l) (by rw [fl_len hc, hk]) hnews (by omega) (by omega) (growslice_fits (by omega) (by rw [hby]; simpa using hB))
      simp only [Nat.zero_add] at hr
      rw [hrun _ _ hr]
      refine hK _ _ _ rfl ?_
      have hge := grownCap_ge w l.length 0 e
      have hcm2 := grownCap_le_maxLen w l.length 0 e (by simp only [maxLen]; omega)
      have s2 := (s1.cut.drew).alloc (.cells (([] : List Value).toArray ++ (fl c l).toArray ++ Builtin.zeroCells z.cells (grownCap w l.length 0 e - l.length)) e)
      refine Sat.join hi ?_
      have s3 := s2.perm (M := pt w.heap.size (.cells (([] : List Value).toArray ++ (fl c l).toArray ++ Builtin.zeroCells z.cells (grownCap w l.length 0 e - l.length)) e (0, 0)) :: delN L i) List.perm_append_comm
      refine s3.mono1 fun h hp => .inr ⟨_, _, rfl, fl_len hc _, hge, hcm2, _, ?_, ?_, hp⟩
      · simp only [Array.size_append, List.size_toArray, size_zeroCells, hzs, fl_len hc, List.length_nil, Nat.zero_add]
        rw [← Nat.add_mul]; congr 1; omega
      · simp only [Array.toList_append, List.nil_append]
        exact List.take_left' rfl
/-- A call that reads alone. -/
theorem VO.callX {α γ : Type} {h : FuncId} {xs : Array Operand} {tys : Array TypeId} {vs : List Value} {A R : List HP} {a : α} {fv : Pf} {val : α → γ → Value} {B : α → γ → List HP} {v : Value} (is : List Nat)
    (hc : ∀ args w, (callFunc h args).run P w = .ok (.enter h args) w) (hx : evs f xs.toList = some vs) (hl : takes is L = some (A, R)) (ht : TriX P h vs A (.ok a) fv val B) (hp : ∀ c, Emps is (B a c) R) (hv : ∀ c, val a c = v) (hL : ∀ c, puts is (B a c) R = L) :
    VO P n w0 f L ⟨d, .call ⟨.value (.func h), xs, tys⟩, ty, pos, af, g⟩ v :=
  (EO.callX is hc hx hl ht hp).mono fun v' L' ⟨c, e1, e2⟩ => ⟨e1.trans (hv c), e2.trans (hL c)⟩
/-- An operation under a guard that is told. -/
theorem SO.wantT {Dl : List (Option Nat)} {q t : Nat} {b : Bool} {p : Op} {S : Value → List HP → Prop} (hg : lnth Dl q = some (some t)) (hl : look f t = some (.bool b)) (h : EO P n w0 f L ⟨d, p, ty, pos, af, some (q, b)⟩ S) : SO P n w0 (some Dl) f L ⟨d, p, ty, pos, af, some (q, b)⟩ S := by
  intro ops hD Q hE K a w fr s hK
  have hy := yielded_of (hD Dl rfl) hg fr hl
  simp only [Region.wanted, hy, asB]
  rw [if_pos (by simp)]
  exact h Q hE K a w fr s hK
theorem SO.wantF {Dl : List (Option Nat)} {q t : Nat} {b : Bool} {p : Op} (hg : lnth Dl q = some (some t)) (hl : look f t = some (.bool (!b))) : SO P n w0 (some Dl) f L ⟨d, p, ty, pos, af, some (q, b)⟩ (fun v' L' => v' = undef ∧ L' = L) := by
  intro ops hD Q hE K a w fr s hK
  have hy := yielded_of (hD Dl rfl) hg fr hl
  simp only [Region.wanted, hy, asB]
  rw [if_neg (by cases b <;> simp)]
  exact hK _ _ _ ⟨rfl, rfl⟩ s
theorem WO.valT {Dl : List (Option Nat)} {d q t : Nat} {b : Bool} {p : Op} {v : Value} (hg : lnth Dl q = some (some t)) (hl : look f t = some (.bool b)) (h : VO P n w0 f L ⟨some d, p, ty, pos, af, some (q, b)⟩ v) (hn : Nat.blt d n = true)
    (k : WO P n w0 (some Dl) rest N ((d, v) :: f) L) : WO P n w0 (some Dl) (⟨some d, p, ty, pos, af, some (q, b)⟩ :: rest) N f L :=
  WO.step (SO.wantT hg hl h) hn (fun v' L' ⟨e, e'⟩ => by subst e; subst e'; exact k)
theorem WO.skipF {Dl : List (Option Nat)} {d q t : Nat} {b : Bool} {p : Op} (hg : lnth Dl q = some (some t)) (hl : look f t = some (.bool (!b))) (hn : Nat.blt d n = true)
    (k : WO P n w0 (some Dl) rest N ((d, undef) :: f) L) : WO P n w0 (some Dl) (⟨some d, p, ty, pos, af, some (q, b)⟩ :: rest) N f L :=
  WO.step (SO.wantF hg hl) hn (fun v' L' ⟨e, e'⟩ => by subst e; subst e'; exact k)
theorem PO.pickT {x y c : Operand} {v : Value} (hc : ev f c = some (.bool true)) (hx : ev f x = some v) : PO P n w0 f L ⟨d, .pick c x y, ty, pos, af, g⟩ v := fun a w fr _ => by
  simp only [execOp, fr.ev hc, fr.ev hx]; rfl
theorem PO.pickF {x y c : Operand} {v : Value} (hc : ev f c = some (.bool false)) (hx : ev f y = some v) : PO P n w0 f L ⟨d, .pick c x y, ty, pos, af, g⟩ v := fun a w fr _ => by
  simp only [execOp, fr.ev hc, fr.ev hx]; rfl
/-! ## Two ways -/
end
def two {α β : Type} (x : Option (Except Int α)) (e : Int → Option β) (k : α → Option β) : Option β := match x with
  | none => none
  | some (.error q) => e q
  | some (.ok a) => k a
theorem two_elim {α β : Type} {x : Option (Except Int α)} {e : Int → Option β} {k : α → Option β} {r : β} (h : two x e k = some r) : (∃ q, x = some (.error q) ∧ e q = some r) ∨ ∃ a, x = some (.ok a) ∧ k a = some r := by
  match x, h with
  | some (.error q), h => exact .inl ⟨q, rfl, h⟩
  | some (.ok a), h => exact .inr ⟨a, rfl, h⟩
section
variable {P : Program} {n : Fs} {w0 : Ctx} {f : Frm} {L : List HP} {d : Option Tmp} {ty : TypeId} {pos : String} {af : Array Edge} {g : Option (Nat × Bool)}
theorem run_eqNP {t e : TypeId} (d : Nat) (w : World) (hu : ∀ w, (underlying t).run P w = .ok (.pointer e) w) : (Op.equalIn (d + 1) t (.pointer none) (.pointer none)).run P w = .ok true w := by
  simp [Op.equalIn, hu]
theorem run_eqNP' {t e : TypeId} (w : World) (hu : ∀ w, (underlying t).run P w = .ok (.pointer e) w) : (Op.equal t (.pointer none) (.pointer none)).run P w = .ok true w := run_eqNP 9999 w hu
theorem PO.eqlNP {t u e : TypeId} {x y : Operand} (hx : ev f x = some (.pointer none)) (hy : ev f y = some (.pointer none)) (hu : ∀ w, (underlying t).run P w = .ok (.pointer e) w) :
    PO P n w0 f L ⟨d, .binOp .eql t x y u, ty, pos, af, g⟩ (.bool true) := PO.bin hx hy fun w => by
  have h := run_eqNP' w hu
  simp [eqGuard, binOp, h] <;> rfl
theorem PO.neqNP {t u e : TypeId} {x y : Operand} (hx : ev f x = some (.pointer none)) (hy : ev f y = some (.pointer none)) (hu : ∀ w, (underlying t).run P w = .ok (.pointer e) w) :
    PO P n w0 f L ⟨d, .binOp .neq t x y u, ty, pos, af, g⟩ (.bool false) := PO.bin hx hy fun w => by
  have h := run_eqNP' w hu
  simp [eqGuard, binOp, h] <;> rfl
/-- Two records, by their fields. -/
theorem PO.neqK {α : Type} [DecidableEq α] {kv : α → Value} {t u : TypeId} {x y : Operand} {a b : α} {xs ys : Array Value} (hx : ev f x = some (kv a)) (hy : ev f y = some (kv b)) (ha : kv a = .agg xs) (hb : kv b = .agg ys) (hG : P.eqGuardType P.depth t = false) (he : ∀ w, (Op.equal t (kv a) (kv b)).run P w = .ok (decide (a = b)) w) :
    PO P n w0 f L ⟨d, .binOp .neq t x y u, ty, pos, af, g⟩ (.bool (!decide (a = b))) := PO.bin hx hy fun w => by
  have h := he w
  rw [ha, hb] at h ⊢
  simp [eqGuard, binOp, h, hG]
end
end Go.Proofs.YtlnionilhagenaaGreatDoor
