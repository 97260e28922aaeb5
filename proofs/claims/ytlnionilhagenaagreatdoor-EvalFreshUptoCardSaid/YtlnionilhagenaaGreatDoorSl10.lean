import Derived.Test.YtlnionilhagenaaGreatDoorSl9
import Derived.Laws.MakeOwn
import Derived.Laws.Slices
import Derived.Laws.DeepStrings4
/-! # Slices: made, written, shortened -/
namespace Go.Proofs.YtlnionilhagenaaGreatDoor
open Go.RowKit
set_option linter.all false
def ic (x : Int) : List Value := [.int .i64 x]
def uc (x : Int) : List Value := [.int .u64 x]
def bc (x : Bool) : List Value := [.bool x]
def sc (x : ByteArray) : List Value := [.string x]
/-- The nil slice, by names. -/
def nils (_ : Nat) : Value := .slice none 0 0
theorem Sat.addNil {w0 w : World} {L : List HP} (T : TypeId) (k j : Nat) (s : Sat w0 L w) : Sat w0 (L ++ [slc T k (nils j) 0 []]) w :=
  s.eq (by rw [sep_append, sep_one, show slc T k (nils j) 0 [] = emp from slc_nil T k, star_emp])
theorem Sat.out {w0 w : World} {F : HP} {L B R : List HP} (is : List Nat) (h : takes is L = some (B ++ [F], R)) (s : Sat w0 L w) : Sat w0 (B ++ F :: R) w :=
  s.eq (by rw [takes_sep h, List.append_assoc]; rfl)
section
variable {α : Type} {c : α → List Value} {k : Nat}
theorem fl_len (hc : ∀ a, (c a).length = k) (l : List α) : (fl c l).length = l.length * k := by
  induction l with
  | nil => simp [fl]
  | cons a l ih => simp [fl, hc, ih, Nat.add_mul]; omega
theorem fl_made (hc : ∀ a, (c a).length = k) (hk : 0 < k) {z : Array Value} {a : α} (hz : z.toList = c a) {m n : Nat} (h : m ≤ n) : (madeCells z (n * k)).toList.take (m * k) = fl c (List.replicate m a) := by
  have hzs : z.size = k := by rw [← Array.length_toList, hz, hc]
  apply List.ext_getElem?
  intro i
  rcases Nat.lt_or_ge i (m * k) with q | q
  · have h1 : i % k < k := Nat.mod_lt _ hk
    have h2 : i / k < m := Nat.div_lt_of_lt_mul (by rw [Nat.mul_comm]; exact q)
    have h3 : i < n * k := Nat.lt_of_lt_of_le q (Nat.mul_le_mul_right _ h)
    have h4 := fl_get (c := c) hc (List.replicate m a) (i / k) (i % k) a (by simp [h2]) h1
    rw [show i / k * k + i % k = i from by rw [Nat.mul_comm]; exact Nat.div_add_mod i k] at h4
    rw [h4, List.getElem?_take, if_pos q, ← hz]
    simp only [madeCells, Array.toList_map, Array.toList_range, List.getElem?_map]
    rw [List.getElem?_range h3]
    simp only [Option.map_some, hzs]
    have h5 : i % k < z.size := by omega
    rw [getElem!_pos z _ h5]
    simp [h5]
  · rw [List.getElem?_eq_none (by simp; omega), List.getElem?_eq_none (by rw [fl_len hc]; simp; omega)]
theorem putL_app : ∀ (xs ys us : List Value) (o : Nat), putL (xs ++ ys) (xs.length + o) us = xs ++ putL ys o us := by
  intro xs
  induction xs with
  | nil => intro ys us o; simp
  | cons x xs ih =>
    intro ys us o
    rw [show (x :: xs).length + o = (xs.length + o) + 1 from by simp; omega]
    have h := ih ys us o
    cases us with
    | nil => simp [putL_nil]
    | cons u us => exact congrArg (x :: ·) h
theorem putL_left : ∀ (xs ys us : List Value) (o : Nat), o + us.length ≤ xs.length → putL (xs ++ ys) o us = putL xs o us ++ ys := by
  intro xs
  induction xs with
  | nil => intro ys us o h; cases us with
    | nil => simp [putL_nil]
    | cons u us => simp at h
  | cons x xs ih =>
    intro ys us o h
    cases us with
    | nil => simp [putL_nil]
    | cons u us =>
      cases o with
      | zero => exact congrArg (u :: ·) (ih ys us 0 (by simp at h ⊢; omega))
      | succ o => exact congrArg (x :: ·) (ih ys (u :: us) o (by simp at h ⊢; omega))
theorem fl_put (hc : ∀ a, (c a).length = k) : ∀ (l : List α) (i j : Nat) (a a' : α) (us : List Value), l[i]? = some a → j + us.length ≤ k → putL (c a) j us = c a' → putL (fl c l) (i * k + j) us = fl c (l.set i a') := by
  intro l
  induction l with
  | nil => intro i j a a' us h; simp at h
  | cons b l ih =>
    intro i j a a' us h hj hp
    cases i with
    | zero =>
      have h : b = a := by simpa using h
      subst h
      rw [show 0 * k + j = j from by omega]
      show putL (c b ++ fl c l) j us = c a' ++ fl c l
      rw [putL_left _ _ _ _ (by rw [hc]; exact hj), hp]
    | succ i =>
      show putL (c b ++ fl c l) ((i + 1) * k + j) us = c b ++ fl c (l.set i a')
      rw [show (i + 1) * k + j = (c b).length + (i * k + j) from by rw [hc, Nat.add_mul]; omega, putL_app, ih i j a a' us (by simpa using h) hj hp]
theorem putL_len : ∀ (xs us : List Value) (o : Nat), (putL xs o us).length = xs.length := by
  intro xs
  induction xs with
  | nil => intro us o; rfl
  | cons x xs ih =>
    intro us o
    cases o with
    | zero => cases us with
      | nil => rfl
      | cons u us => exact congrArg (· + 1) (ih us 0)
    | succ o => cases us with
      | nil => simp [putL_nil]
      | cons u us => exact congrArg (· + 1) (ih (u :: us) o)
theorem putL_take : ∀ (cs us : List Value) (o m : Nat), o + us.length ≤ m → (putL cs o us).take m = putL (cs.take m) o us := by
  intro cs
  induction cs with
  | nil => intro us o m _; simp [putL]
  | cons x cs ih =>
    intro us o m h
    cases us with
    | nil => simp [putL_nil]
    | cons u us =>
      cases m with
      | zero => simp at h
      | succ m =>
        cases o with
        | zero => exact congrArg (u :: ·) (ih us 0 m (by simp at h ⊢; omega))
        | succ o => exact congrArg (x :: ·) (ih (u :: us) o m (by simp at h ⊢; omega))
end
/-- A part of a string, if its bounds are. -/
def subS (s : ByteArray) (a b : Int) : Option ByteArray := if 0 ≤ a ∧ a ≤ b ∧ b ≤ (s.size : Int) then some (s.extract a.toNat b.toNat) else none
theorem subS_some {s r : ByteArray} {a b : Int} (h : subS s a b = some r) : (0 ≤ a ∧ a ≤ b ∧ b ≤ (s.size : Int)) ∧ r = s.extract a.toNat b.toNat := by
  unfold subS at h
  split at h
  · rename_i q; exact ⟨q, (Option.some.inj h).symm⟩
  · cases h
def sliceTo (v : Value) (m : Nat) : Value := match v with
  | .slice a _ cap => .slice a m cap
  | v => v
section
variable {P : Program} {n : Fs} {w0 : Ctx} {N : Cn} {X : Nat → Cn} {R : Cn} {f : Frm} {L : List HP} {D : Option (List (Option Nat))} {rest : List Oper}
  {d : Option Nat} {ty : TypeId} {pos : String} {af : Array Edge} {g : Option (Nat × Bool)} {α : Type} {c : α → List Value} {k : Nat}
/-- A literal of one element, as a slice. -/
theorem Sat.one {w : World} {T : TypeId} {b : Nat} {nc : Array Value} {a : α} (j : Nat) (hc : (c a).length = k) (hj : nth L j = some (pt b (.cells nc T (0, 0)))) (ha : nc.toList = c a) (s : Sat w0 L w) :
    Sat w0 (setN L j (slc T k (.slice (some ⟨b, 0, none⟩) 1 1) [a].length (fl c [a]))) w := by
  obtain ⟨h1, hs, s1⟩ := s.split hj
  refine Sat.join hj (s1.mono1 fun h e => .inr ⟨b, 1, rfl, by simp [fl, hc], by simp, by simp [maxLen], nc, ?_, ?_, by rw [show h = h1 from e]; exact hs⟩)
  · rw [← Array.length_toList, ha, hc]; omega
  · rw [ha]; simp [fl]
theorem EO.makeL {t e : TypeId} {x y : Operand} {q r : Int} {kl kc : IntKind} {ti : TypeInfo} {z : Value} {a : α} {by_ : Nat} (hc : ∀ a, (c a).length = k) (hti : ∀ w, (typeInfo e).run P w = .ok ti w) (hz : ti.zero = some z) (hk : ti.size = k) (hby : ti.bytes = by_)
    (hut : P.underlying t = some (.slice e)) (hx : ev f x = some (.int kl q)) (hy : ev f y = some (.int kc r)) (hza : z.cells.toList = c a) (hk0 : Nat.blt 0 k = true) (hb0 : Nat.blt 0 by_ = true) (hB : 0 ≤ q ∧ q ≤ r ∧ r * by_ ≤ 140737488355328) :
    EO P n w0 f L ⟨d, .makeSlice t x y, ty, pos, af, g⟩ fun v' L' => L' = L ++ [slc e k v' (List.replicate q.toNat a).length (fl c (List.replicate q.toNat a))] := by
  intro Q hE K ac w fr s hK
  left
  obtain ⟨h0, h1, h2⟩ := hB
  have hk0' : 0 < k := by simpa [Nat.blt_eq] using hk0
  have hb0' : 0 < by_ := by simpa [Nat.blt_eq] using hb0
  have hr : r ≤ 140737488355328 := Int.le_trans (by
    have : r * 1 ≤ r * (by_ : Int) := Int.mul_le_mul_of_nonneg_left (by omega) (by omega)
    omega) h2
  unfold Oper.wp
  have hrun : (execOp ac.eval ⟨d, .makeSlice t x y, ty, pos, af, g⟩).run P w = .ok (.value (.slice (some ⟨w.heap.size, 0, none⟩) q.toNat r.toNat)) (w.alloc (.cells (madeCells z.cells (r.toNat * k)) e)) := by
    have := run_make (P := P) w t e ti z hut (info_of hti) hz kl kc q r h0 h1 (by rw [hby, Int.mul_comm]; omega) (by omega)
    rw [hk] at this
    simp only [execOp, fr.ev hx, fr.ev hy, Sem.run_bind, this, Result.andThen]; rfl
  rw [hrun]
  refine hK _ _ _ rfl ?_
  have s2 : Sat w0 (pt w.heap.size (.cells (madeCells z.cells (r.toNat * k)) e (0, 0)) :: L) (w.alloc (.cells (madeCells z.cells (r.toNat * k)) e)) := (s.alloc (.cells (madeCells z.cells (r.toNat * k)) e)).perm List.perm_append_comm
  have s3 := s2.mono1 (B := slc e k (.slice (some ⟨w.heap.size, 0, none⟩) q.toNat r.toNat) (List.replicate q.toNat a).length (fl c (List.replicate q.toNat a))) fun h hp =>
    .inr ⟨_, r.toNat, by simp, by rw [fl_len hc], by simp; omega, by simp [maxLen]; omega, _, size_madeCells _ _, by rw [fl_len hc, List.length_replicate]; exact fl_made hc hk0' hza (by omega), hp⟩
  exact s3.perm (show List.Perm ([_] ++ L) (L ++ [_]) from List.perm_append_comm)
theorem EO.storeL {t : TypeId} {x y : Operand} {v u : Value} {T : TypeId} {len o : Nat} {xs xs' : List Value} (i : Nat) (hx : ev f x = some (.pointer (some ⟨blk v, o, none⟩))) (hy : ev f y = some u) (hz : ∀ w, (sizeOf t).run P w = .ok u.cells.size w)
    (hl : nth L i = some (slc T k v len xs)) (hv : allCell u.cells.toList = true) (ho : o + u.cells.size ≤ xs.length) (hu : Nat.blt 0 u.cells.size = true) (hxs : putL xs o u.cells.toList = xs') :
    EO P n w0 f L ⟨none, .store t x y, ty, pos, af, g⟩ fun _ L' => L' = setN L i (slc T k v len xs') := by
  intro Q hE K a w fr s hK
  left
  have hu' : 0 < u.cells.size := by simpa [Nat.blt_eq] using hu
  obtain ⟨h1, hs, s1⟩ := s.split hl
  have hsub : ∀ c o, h1 c = some o → w.heap[c]? = some o := by
    intro c o hc
    obtain ⟨_, hp, q, h3, h4, _, rfl, e3, _⟩ := s1
    exact q c o (by simp [Hp.un, show h3 = h1 from e3, hc])
  rcases hs with ⟨rfl, _, rfl, _⟩ | ⟨b, cap, rfl, hxl, hlc, hcm, hrow⟩
  · have ho : o + u.cells.size ≤ 0 := ho
    omega
  · obtain ⟨cs, hcs, htk, hb, hp⟩ := rowAt_of hrow hsub
    have hsz : xs.length ≤ cs.size := by rw [hxl, hcs]; exact Nat.mul_le_mul_right _ hlc
    have hst := run_storeCells (P := P) u.cells.toList cs o 0 w hb (allCell_mem hv) (by simp; omega)
    have hx' : ev f x = some (.pointer (some ⟨b, o, none⟩)) := hx
    have hr : (execOp a.eval ⟨none, .store t x y, ty, pos, af, g⟩).run P w = .ok .skip { w with heap := w.heap.setIfInBounds b (.cells (putFrom cs o u.cells.toList) T (0, 0)) } := by
      simp [execOp, fr.ev hx', fr.ev hy, Instr.storeAt, Instr.sureAddr, storeVar, hz, hst]
    unfold Oper.wp
    rw [hr]
    refine hK undef _ _ rfl ?_
    have s2 : Sat w0 (pt b (.cells cs T (0, 0)) :: delN L i) w := s1.mono1 (fun h e1 => by rw [show h = h1 from e1]; exact hp)
    have s3 := s2.put (i := 0) rfl (.cells (putFrom cs o u.cells.toList) T (0, 0))
    have hlen : xs'.length = xs.length := by rw [← hxs, putL_len]
    refine Sat.join hl (s3.mono1 fun h hp => .inr ⟨b, cap, rfl, by rw [hlen]; exact hxl, hlc, hcm, _, ?_, ?_, hp⟩)
    · rw [putFrom_eq]; simp [putL_len, hcs]
    · rw [putFrom_eq]
      simp only
      rw [putL_take _ _ _ _ (by rw [hlen]; simpa using ho), hlen, htk, hxs]
theorem EO.storeI {t : TypeId} {x y : Operand} {v u : Value} {T : TypeId} {l : List α} {q : Int} {a a' : α} {j : Nat} (i : Nat) (hc : ∀ a, (c a).length = k) (hx : ev f x = some (.pointer (some ⟨blk v, q.toNat * k + j, none⟩))) (hy : ev f y = some u) (hz : ∀ w, (sizeOf t).run P w = .ok u.cells.size w)
    (hl : nth L i = some (slc T k v l.length (fl c l))) (hg : getI l q = some a) (hv : allCell u.cells.toList = true) (hj : Nat.ble (j + u.cells.size) k = true) (hu : Nat.blt 0 u.cells.size = true) (hp : putL (c a) j u.cells.toList = c a') :
    EO P n w0 f L ⟨none, .store t x y, ty, pos, af, g⟩ fun _ L' => L' = setN L i (slc T k v (l.set q.toNat a').length (fl c (l.set q.toNat a'))) := by
  obtain ⟨h0, h1, h2⟩ := getI_lt hg
  have hj' : j + u.cells.size ≤ k := Nat.le_of_ble_eq_true hj
  rw [List.length_set]
  refine EO.storeL (xs := fl c l) i hx hy hz hl hv ?_ hu (fl_put hc l _ j a a' _ h2 (by simpa using hj') hp)
  rw [fl_len hc]
  have : (q.toNat + 1) * k ≤ l.length * k := Nat.mul_le_mul_right _ (by omega)
  rw [Nat.add_mul] at this; omega
theorem EO.sliceTo {t e : TypeId} {x y : Operand} {v : Value} {l : List α} {kd : IntKind} {m : Int} (i : Nat) (hc : ∀ a, (c a).length = k) (hx : ev f x = some v) (hy : ev f y = some (.int kd m)) (hu : P.underlying t = some (.slice e)) (hz : ∀ w, (sizeOf e).run P w = .ok k w)
    (hl : nth L i = some (slc e k v l.length (fl c l))) (hm : 0 ≤ m ∧ m ≤ l.length) :
    EO P n w0 f L ⟨d, .slice t x none (some y) none, ty, pos, af, g⟩ fun v' L' => v' = sliceTo v m.toNat ∧ L' = setN L i (slc e k (sliceTo v m.toNat) (l.take m.toNat).length (fl c (l.take m.toNat))) := by
  intro Q hE K a w fr s hK
  left
  obtain ⟨h0, h1⟩ := hm
  have hel : P.elem t = e := by simp [Program.elem, hu]
  have hu' : P.underlying t = some (.slice (P.elem t)) := by rw [hel]; exact hu
  obtain ⟨hp, hs, s1⟩ := s.split hl
  have hfl : ∀ {M : Nat}, (fl c (l.take m.toNat)).length = (l.take m.toNat).length * k := fun {M} => fl_len hc _
  rcases hs with ⟨rfl, h2, h3, h4⟩ | ⟨b, cap, rfl, hxl, hlc, hcm, hrow⟩
  · have hm0 : m = 0 := by omega
    subst hm0
    have hr : (execOp a.eval ⟨d, .slice t x none (some y) none, ty, pos, af, g⟩).run P w = .ok (.value (.slice none 0 0)) w := by
      have := run_slice_h (P := P) w t none 0 0 hu' kd 0 (Int.le_refl _) (by simp)
      simp only [execOp, fr.ev hx, fr.ev hy, Option.map, run_sliceAt_slice w t _ _ _ _ hu', Sem.run_bind, this, hel, hz, Result.andThen, sliced]; rfl
    unfold Oper.wp
    rw [hr]
    refine hK _ _ _ ⟨rfl, rfl⟩ (Sat.join hl (s1.mono1 fun h e1 => .inl ⟨rfl, by simp, by simp [fl], by rw [show h = hp from e1]; exact h4⟩))
  · have hr : (execOp a.eval ⟨d, .slice t x none (some y) none, ty, pos, af, g⟩).run P w = .ok (.value (.slice (some ⟨b, 0, none⟩) m.toNat cap)) w := by
      have := run_slice_h (P := P) w t (some ⟨b, 0, none⟩) l.length cap hu' kd m h0 (by omega)
      have hs0 : (sliced (some ⟨b, 0, none⟩) 0 m.toNat cap k) = .slice (some ⟨b, 0, none⟩) m.toNat cap := by
        simp [sliced, addr_add]
      simp only [execOp, fr.ev hx, fr.ev hy, Option.map, run_sliceAt_slice w t _ _ _ _ hu', Sem.run_bind, this, hel, hz, Result.andThen, hs0]; rfl
    unfold Oper.wp
    rw [hr]
    have hlen : (l.take m.toNat).length = m.toNat := by rw [List.length_take]; omega
    refine hK _ _ _ ⟨rfl, rfl⟩ (Sat.join hl (s1.mono1 fun h e1 => .inr ⟨b, cap, by rw [hlen]; rfl, fl_len hc _, by omega, hcm, ?_⟩))
    rw [show h = hp from e1]
    obtain ⟨cs, h5, h6, h7⟩ := hrow
    refine ⟨cs, h5, ?_, h7⟩
    have h8 : fl c l = fl c (l.take m.toNat) ++ fl c (l.drop m.toNat) := by rw [← fl_append, List.take_append_drop]
    have h9 : (fl c l).take (fl c (l.take m.toNat)).length = fl c (l.take m.toNat) := by rw [h8, List.take_left' rfl]
    have h10 : (fl c (l.take m.toNat)).length ≤ (fl c l).length := by rw [h8]; simp
    calc cs.toList.take (fl c (l.take m.toNat)).length = (cs.toList.take (fl c l).length).take (fl c (l.take m.toNat)).length := by rw [List.take_take, Nat.min_eq_left h10]
      _ = fl c (l.take m.toNat) := by rw [h6, h9]
theorem EO.makeMapN {β γ : Type} {kv : β → Value} {vv : γ → Value} {t kt et : TypeId} {y : Operand} {kd : IntKind} {m : Int} (hy : ev f y = some (.int kd m)) (hu : ∀ w, (underlying t).run P w = .ok (.map kt et) w) :
    EO P n w0 f L ⟨d, .makeMap t (some y), ty, pos, af, g⟩ fun v L' => ∃ b, v = .map (some b) ∧ L' = L ++ [mapAt kv vv b []] := by
  intro Q hE K a w fr s hK
  left
  unfold Oper.wp
  have : (execOp a.eval ⟨d, .makeMap t (some y), ty, pos, af, g⟩).run P w = .ok (.value (.map (some w.heap.size))) (w.alloc (.map #[] 0)) := by
    simp [execOp, fr.ev hy, Instr.makeMap, hu, asInt, asIntOf, newObj, Sem.run]
  rw [this]
  refine hK _ _ _ ⟨w.heap.size, rfl, rfl⟩ ?_
  have := s.alloc (.map #[] 0)
  obtain ⟨b, hp, q, hs⟩ := this
  refine ⟨b, hp, q, ?_⟩
  rw [sep_append, sep_one] at hs ⊢
  obtain ⟨h1, h2, dd, e, a1, a2⟩ := hs
  exact ⟨h1, h2, dd, e, a1, #[], 0, rfl, a2⟩
theorem run_eqPN {t e : TypeId} {b : Addr} (d : Nat) (w : World) (hu : ∀ w, (underlying t).run P w = .ok (.pointer e) w) : (Op.equalIn (d + 1) t (.pointer (some b)) (.pointer none)).run P w = .ok false w := by
  simp [Op.equalIn, hu]
theorem run_eqPN' {t e : TypeId} {b : Addr} (w : World) (hu : ∀ w, (underlying t).run P w = .ok (.pointer e) w) : (Op.equal t (.pointer (some b)) (.pointer none)).run P w = .ok false w := run_eqPN 9999 w hu
theorem PO.eqlPN {t u e : TypeId} {x y : Operand} {b : Addr} (hx : ev f x = some (.pointer (some b))) (hy : ev f y = some (.pointer none)) (hu : ∀ w, (underlying t).run P w = .ok (.pointer e) w) :
    PO P n w0 f L ⟨d, .binOp .eql t x y u, ty, pos, af, g⟩ (.bool false) := PO.bin hx hy fun w => by
  have h := run_eqPN' (b := b) w hu
  simp [eqGuard, binOp, h] <;> rfl
theorem PO.neqPN {t u e : TypeId} {x y : Operand} {b : Addr} (hx : ev f x = some (.pointer (some b))) (hy : ev f y = some (.pointer none)) (hu : ∀ w, (underlying t).run P w = .ok (.pointer e) w) :
    PO P n w0 f L ⟨d, .binOp .neq t x y u, ty, pos, af, g⟩ (.bool true) := PO.bin hx hy fun w => by
  have h := run_eqPN' (b := b) w hu
  simp [eqGuard, binOp, h] <;> rfl
theorem PO.strH {t : TypeId} {x y : Operand} {s : ByteArray} {kd : IntKind} {m : Int} (hx : ev f x = some (.string s)) (hy : ev f y = some (.int kd m)) (hu : P.underlying t = some .string) (hm : 0 ≤ m ∧ m ≤ (s.size : Int)) :
    PO P n w0 f L ⟨d, .slice t x none (some y) none, ty, pos, af, g⟩ (.string (s.extract 0 m.toNat)) := fun a w fr _ => by
  have h : (Instr.sliceAt t (.string s) none (some (.int kd m)) none).run P w = .ok (.string (s.extract 0 m.toNat)) w := by
    rw [run_sliceAt_string w t _ _ _ _ hu]; exact run_slice_string_h w t s hu kd m hm.1 hm.2
  simp only [execOp, fr.ev hx, fr.ev hy, Option.map, Sem.run_bind, h, Result.andThen]; rfl
theorem PO.strL {t : TypeId} {x y : Operand} {s : ByteArray} {kd : IntKind} {m : Int} (hx : ev f x = some (.string s)) (hy : ev f y = some (.int kd m)) (hu : P.underlying t = some .string) (hm : 0 ≤ m ∧ m ≤ (s.size : Int)) :
    PO P n w0 f L ⟨d, .slice t x (some y) none none, ty, pos, af, g⟩ (.string (s.extract m.toNat s.size)) := fun a w fr _ => by
  have h : (Instr.sliceAt t (.string s) (some (.int kd m)) none none).run P w = .ok (.string (s.extract m.toNat s.size)) w := by
    rw [run_sliceAt_string w t _ _ _ _ hu]; exact run_slice_string_l w t s hu kd m hm.1 hm.2
  simp only [execOp, fr.ev hx, fr.ev hy, Option.map, Sem.run_bind, h, Result.andThen]; rfl
theorem PO.strLH {t : TypeId} {x y z : Operand} {s : ByteArray} {kd ke : IntKind} {m q : Int} (hx : ev f x = some (.string s)) (hy : ev f y = some (.int kd m)) (hz : ev f z = some (.int ke q)) (hu : P.underlying t = some .string) (hm : 0 ≤ m ∧ m ≤ q ∧ q ≤ (s.size : Int)) :
    PO P n w0 f L ⟨d, .slice t x (some y) (some z) none, ty, pos, af, g⟩ (.string (s.extract m.toNat q.toNat)) := fun a w fr _ => by
  have h : (Instr.sliceAt t (.string s) (some (.int kd m)) (some (.int ke q)) none).run P w = .ok (.string (s.extract m.toNat q.toNat)) w := by
    rw [run_sliceAt_string w t _ _ _ _ hu, run_slice_string_if w t s kd ke m q hu, if_pos ⟨by omega, hm.2.2⟩, if_pos ⟨hm.1, hm.2.1⟩]
  simp only [execOp, fr.ev hx, fr.ev hy, fr.ev hz, Option.map, Sem.run_bind, h, Result.andThen]; rfl
theorem PO.strHo {t : TypeId} {x y : Operand} {s r : ByteArray} {kd : IntKind} {m : Int} (hx : ev f x = some (.string s)) (hy : ev f y = some (.int kd m)) (hu : P.underlying t = some .string) (h : subS s 0 m = some r) :
    PO P n w0 f L ⟨d, .slice t x none (some y) none, ty, pos, af, g⟩ (.string r) := by
  obtain ⟨h1, rfl⟩ := subS_some h
  exact PO.strH hx hy hu ⟨h1.2.1, h1.2.2⟩
theorem PO.strLo {t : TypeId} {x y : Operand} {s r : ByteArray} {kd : IntKind} {m : Int} (hx : ev f x = some (.string s)) (hy : ev f y = some (.int kd m)) (hu : P.underlying t = some .string) (h : subS s m s.size = some r) :
    PO P n w0 f L ⟨d, .slice t x (some y) none none, ty, pos, af, g⟩ (.string r) := by
  obtain ⟨h1, rfl⟩ := subS_some h
  exact PO.strL hx hy hu ⟨h1.1, h1.2.1⟩
theorem PO.strLHo {t : TypeId} {x y z : Operand} {s r : ByteArray} {kd ke : IntKind} {m q : Int} (hx : ev f x = some (.string s)) (hy : ev f y = some (.int kd m)) (hz : ev f z = some (.int ke q)) (hu : P.underlying t = some .string) (h : subS s m q = some r) :
    PO P n w0 f L ⟨d, .slice t x (some y) (some z) none, ty, pos, af, g⟩ (.string r) := by
  obtain ⟨h1, rfl⟩ := subS_some h
  exact PO.strLH hx hy hz hu h1
theorem PO.idxArrS {t e : TypeId} {m : Nat} {x y : Operand} {cs : Array Value} {l : List Int} {v q : Int} {kd kv : IntKind} (hx : ev f x = some (.agg cs)) (hy : ev f y = some (.int kd q)) (hu : ∀ w, (underlying t).run P w = .ok (.array m e) w)
    (hz : ∀ w, (sizeOf e).run P w = .ok 1 w) (ha : ∀ w, (isAgg e).run P w = .ok false w) (hl : cs.toList = l.map (fun x => .int kv x)) (hm : l.length = m) (hv : getI l q = some v) : PO P n w0 f L ⟨d, .index t x y, ty, pos, af, g⟩ (.int kv v) := by
  obtain ⟨h0, h1, h2⟩ := getI_lt hv
  exact PO.idxArr (i := q.toNat) hx hy hu hz ha (by omega) (by rw [Nat.blt_eq]; omega) (by rw [lnth_eq, hl, List.getElem?_map, h2]; rfl)
end
end Go.Proofs.YtlnionilhagenaaGreatDoor
