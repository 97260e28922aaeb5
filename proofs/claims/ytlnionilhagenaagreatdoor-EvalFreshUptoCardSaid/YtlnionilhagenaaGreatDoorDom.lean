/- The data of layers 7 and 9: nodes, stores, makers; how they lie in memory. -/
import Derived.Test.YtlnionilhagenaaGreatDoorSl13
import Derived.Test.YtlnionilhagenaaGreatDoorProg
import Derived.KernelRfl
import Derived.Laws.StructEq
namespace Go.Proofs.YtlnionilhagenaaGreatDoor
open Go.RowKit
set_option linter.all false

structure Nd where
  Op : Int
  W : Int
  A : Int
  B : Int
  C : Int
  Num : Int
  Name : ByteArray
deriving DecidableEq
@[reducible] def Nd.cells (n : Nd) : List Value := [.int .i64 n.Op, .int .i64 n.W, .int .i64 n.A, .int .i64 n.B, .int .i64 n.C, .int .u64 n.Num, .string n.Name]
@[reducible] def Nd.val (n : Nd) : Value := .agg #[.int .i64 n.Op, .int .i64 n.W, .int .i64 n.A, .int .i64 n.B, .int .i64 n.C, .int .u64 n.Num, .string n.Name]
@[reducible] def iv (n : Int) : Value := .int .i64 n
/-- A variable's value. -/
structure Vl where
  Name : ByteArray
  W : Int
  Num : Int
deriving DecidableEq
def Vl.cells (n : Vl) : List Value := [.string n.Name, .int .i64 n.W, .int .u64 n.Num]
@[reducible] def Vl.val (n : Vl) : Value := .agg #[.string n.Name, .int .i64 n.W, .int .u64 n.Num]
@[reducible] def uv (n : Int) : Value := .int .u64 n
@[reducible] def sv (s : ByteArray) : Value := .string s
theorem bytes_beq (a b : ByteArray) : (a == b) = decide (a = b) := by
  rw [beq_toListBytes, ByteArray.toList_eq, ByteArray.toList_eq]
  by_cases h : a = b
  · subst h; simp
  · have : ¬ a.data = b.data := fun e => h (by cases a; cases b; simp at e; simp [e])
    simp [h, this]
theorem bytes_beq' (a b : ByteArray) : (a.toList == b.toList) = decide (a = b) := by rw [← beq_toListBytes]; exact bytes_beq a b
theorem checkKey_scalar {P : Program} {t : TypeId} {v : Value} {d : TypeDesc} (e : Bool) (m : Nat) (h : ∀ w, (underlying t).run P w = .ok d w) (hd : match d with | .int _ | .string | .bool | .pointer _ => True | _ => False) (w : World) : (Instr.checkKey e (m + 1) t v).run P w = .ok () w := by
  unfold Instr.checkKey
  rw [Sem.run_bind, h]
  cases d <;> first | rfl | cases hd
theorem node_check (e : Bool) (a : Nd) (w : World) : (Instr.checkKey e 10000 45 (a.val)).run Tryz.prog w = .ok () w := by
  have h3 : ∀ (v : Value) w, (Instr.checkKey e 9999 3 v).run Tryz.prog w = .ok () w := fun v w => checkKey_scalar e 9998 Tryz.runUnderlying3 trivial w
  have h48 : ∀ (v : Value) w, (Instr.checkKey e 9999 33 v).run Tryz.prog w = .ok () w := fun v w => checkKey_scalar e 9998 Tryz.runUnderlying33 trivial w
  have h9 : ∀ (v : Value) w, (Instr.checkKey e 9999 9 v).run Tryz.prog w = .ok () w := fun v w => checkKey_scalar e 9998 Tryz.runUnderlying9 trivial w
  unfold Instr.checkKey
  rw [Sem.run_bind, Tryz.runUnderlying45]
  simp [part, Tryz.isAgg3, Tryz.isAgg33, Tryz.isAgg9, h3, h48, h9]
theorem node_fields : Tryz.prog.fieldsOf 45 = #[⟨ "Op", 3, 0, false, "", "", 0⟩, ⟨ "W", 3, 1, false, "", "", 8⟩, ⟨ "A", 3, 2, false, "", "", 16⟩, ⟨ "B", 3, 3, false, "", "", 24⟩, ⟨ "C", 3, 4, false, "", "", 32⟩, ⟨ "Num", 33, 5, false, "", "", 40⟩, ⟨ "Name", 9, 6, false, "", "", 48⟩] := by
  simp [Program.fieldsOf, Tryz.underlying45]
theorem node_eq (a b : Nd) (w : World) : (Op.equal 45 a.val b.val).run Tryz.prog w = .ok (decide (a = b)) w := by
  have h3 : ∀ (k : IntKind) (x y : Int) w, (Op.equalIn 9999 3 (.int k x) (.int k y)).run Tryz.prog w = .ok (x == y) w := fun k x y w => run_equalIn_int w 9998 _ k .i64 x y Tryz.underlying3
  have h48 : ∀ (k : IntKind) (x y : Int) w, (Op.equalIn 9999 33 (.int k x) (.int k y)).run Tryz.prog w = .ok (x == y) w := fun k x y w => run_equalIn_int w 9998 _ k .u64 x y Tryz.underlying33
  have h9 : ∀ (x y : ByteArray) w, (Op.equalIn 9999 9 (.string x) (.string y)).run Tryz.prog w = .ok (x.toList == y.toList) w := fun x y w => run_equalIn_string w 9998 _ x y Tryz.underlying9
  have hp3 : ∀ (xs : Array Value) (i : Nat) (v : Value) w, xs[i]? = some v → (part 3 xs i).run Tryz.prog w = .ok v w := fun xs i v w h => by simp [part, Tryz.isAgg3, h]
  have hp48 : ∀ (xs : Array Value) (i : Nat) (v : Value) w, xs[i]? = some v → (part 33 xs i).run Tryz.prog w = .ok v w := fun xs i v w h => by simp [part, Tryz.isAgg33, h]
  have hp9 : ∀ (xs : Array Value) (i : Nat) (v : Value) w, xs[i]? = some v → (part 9 xs i).run Tryz.prog w = .ok v w := fun xs i v w h => by simp [part, Tryz.isAgg9, h]
  show (Op.equalIn 10000 45 a.val b.val).run Tryz.prog w = _
  rw [run_equalIn_agg w 9999 45 _ _ (by rw [node_fields]; exact Tryz.underlying45) Tryz.stoodInHeld45, node_fields]
  have step3 : ∀ (xs ys : Array Value) (nm : String) (off : Nat) (x1 x2 : String) (by_ : Nat) (k : IntKind) (x y : Int) (fs : List Field), nm ≠ "_" → xs[off]? = some (.int k x) → ys[off]? = some (.int k y) →
      (Op.eqFields 9999 xs ys (⟨nm, 3, off, false, x1, x2, by_⟩ :: fs)).run Tryz.prog w = if x = y then (Op.eqFields 9999 xs ys fs).run Tryz.prog w else .ok false w := by
    intro xs ys nm off x1 x2 by_ k x y fs hn h1 h2
    rw [Op.eqFields.eq_2, if_pos hn, Sem.run_bind, hp3 _ _ _ _ h1]
    simp only [Result.andThen]
    rw [Sem.run_bind, hp3 _ _ _ _ h2]
    simp only [Result.andThen]
    rw [Sem.run_bind, h3]
    simp only [Result.andThen]
    by_cases e : x = y <;> simp [e]
  have step48 : ∀ (xs ys : Array Value) (nm : String) (off : Nat) (x1 x2 : String) (by_ : Nat) (k : IntKind) (x y : Int) (fs : List Field), nm ≠ "_" → xs[off]? = some (.int k x) → ys[off]? = some (.int k y) →
      (Op.eqFields 9999 xs ys (⟨nm, 33, off, false, x1, x2, by_⟩ :: fs)).run Tryz.prog w = if x = y then (Op.eqFields 9999 xs ys fs).run Tryz.prog w else .ok false w := by
    intro xs ys nm off x1 x2 by_ k x y fs hn h1 h2
    rw [Op.eqFields.eq_2, if_pos hn, Sem.run_bind, hp48 _ _ _ _ h1]
    simp only [Result.andThen]
    rw [Sem.run_bind, hp48 _ _ _ _ h2]
    simp only [Result.andThen]
    rw [Sem.run_bind, h48]
    simp only [Result.andThen]
    by_cases e : x = y <;> simp [e]
  have step9 : ∀ (xs ys : Array Value) (nm : String) (off : Nat) (x1 x2 : String) (by_ : Nat) (x y : ByteArray) (fs : List Field), nm ≠ "_" → xs[off]? = some (.string x) → ys[off]? = some (.string y) →
      (Op.eqFields 9999 xs ys (⟨nm, 9, off, false, x1, x2, by_⟩ :: fs)).run Tryz.prog w = if x = y then (Op.eqFields 9999 xs ys fs).run Tryz.prog w else .ok false w := by
    intro xs ys nm off x1 x2 by_ x y fs hn h1 h2
    rw [Op.eqFields.eq_2, if_pos hn, Sem.run_bind, hp9 _ _ _ _ h1]
    simp only [Result.andThen]
    rw [Sem.run_bind, hp9 _ _ _ _ h2]
    simp only [Result.andThen]
    rw [Sem.run_bind, h9]
    simp only [Result.andThen]
    rw [bytes_beq']
    by_cases e : x = y <;> simp [e]
  obtain ⟨a1, a2, a3, a4, a5, a6, a7⟩ := a
  obtain ⟨b1, b2, b3, b4, b5, b6, b7⟩ := b
  rw [step3 _ _ _ _ _ _ _ .i64 a1 b1 _ (by decide) rfl rfl, step3 _ _ _ _ _ _ _ .i64 a2 b2 _ (by decide) rfl rfl, step3 _ _ _ _ _ _ _ .i64 a3 b3 _ (by decide) rfl rfl, step3 _ _ _ _ _ _ _ .i64 a4 b4 _ (by decide) rfl rfl,
    step3 _ _ _ _ _ _ _ .i64 a5 b5 _ (by decide) rfl rfl, step48 _ _ _ _ _ _ _ .u64 a6 b6 _ (by decide) rfl rfl, step9 _ _ _ _ _ _ _ a7 b7 _ (by decide) rfl rfl]
  simp only [Op.eqFields, Sem.run_pure]
  by_cases e1 : a1 = b1 <;> by_cases e2 : a2 = b2 <;> by_cases e3 : a3 = b3 <;> by_cases e4 : a4 = b4 <;> by_cases e5 : a5 = b5 <;> by_cases e6 : a6 = b6 <;> by_cases e7 : a7 = b7 <;> simp [e1, e2, e3, e4, e5, e6, e7]
theorem vl_fields : Tryz.prog.fieldsOf 35 = #[⟨ "Name", 9, 0, false, "", "", 0⟩, ⟨ "W", 3, 1, false, "", "", 16⟩, ⟨ "Num", 33, 2, false, "", "", 24⟩] := by
  simp [Program.fieldsOf, Tryz.underlying35]
theorem vl_eq (a b : Vl) (w : World) : (Op.equal 35 a.val b.val).run Tryz.prog w = .ok (decide (a = b)) w := by
  have h3 : ∀ (k : IntKind) (x y : Int) w, (Op.equalIn 9999 3 (.int k x) (.int k y)).run Tryz.prog w = .ok (x == y) w := fun k x y w => run_equalIn_int w 9998 _ k .i64 x y Tryz.underlying3
  have h48 : ∀ (k : IntKind) (x y : Int) w, (Op.equalIn 9999 33 (.int k x) (.int k y)).run Tryz.prog w = .ok (x == y) w := fun k x y w => run_equalIn_int w 9998 _ k .u64 x y Tryz.underlying33
  have h9 : ∀ (x y : ByteArray) w, (Op.equalIn 9999 9 (.string x) (.string y)).run Tryz.prog w = .ok (x.toList == y.toList) w := fun x y w => run_equalIn_string w 9998 _ x y Tryz.underlying9
  have hp3 : ∀ (xs : Array Value) (i : Nat) (v : Value) w, xs[i]? = some v → (part 3 xs i).run Tryz.prog w = .ok v w := fun xs i v w h => by simp [part, Tryz.isAgg3, h]
  have hp48 : ∀ (xs : Array Value) (i : Nat) (v : Value) w, xs[i]? = some v → (part 33 xs i).run Tryz.prog w = .ok v w := fun xs i v w h => by simp [part, Tryz.isAgg33, h]
  have hp9 : ∀ (xs : Array Value) (i : Nat) (v : Value) w, xs[i]? = some v → (part 9 xs i).run Tryz.prog w = .ok v w := fun xs i v w h => by simp [part, Tryz.isAgg9, h]
  show (Op.equalIn 10000 35 a.val b.val).run Tryz.prog w = _
  rw [run_equalIn_agg w 9999 35 _ _ (by rw [vl_fields]; exact Tryz.underlying35) Tryz.stoodInHeld35, vl_fields]
  have step3 : ∀ (xs ys : Array Value) (nm : String) (off : Nat) (x1 x2 : String) (by_ : Nat) (k : IntKind) (x y : Int) (fs : List Field), nm ≠ "_" → xs[off]? = some (.int k x) → ys[off]? = some (.int k y) →
      (Op.eqFields 9999 xs ys (⟨nm, 3, off, false, x1, x2, by_⟩ :: fs)).run Tryz.prog w = if x = y then (Op.eqFields 9999 xs ys fs).run Tryz.prog w else .ok false w := by
    intro xs ys nm off x1 x2 by_ k x y fs hn h1 h2
    rw [Op.eqFields.eq_2, if_pos hn, Sem.run_bind, hp3 _ _ _ _ h1]
    simp only [Result.andThen]
    rw [Sem.run_bind, hp3 _ _ _ _ h2]
    simp only [Result.andThen]
    rw [Sem.run_bind, h3]
    simp only [Result.andThen]
    by_cases e : x = y <;> simp [e]
  have step48 : ∀ (xs ys : Array Value) (nm : String) (off : Nat) (x1 x2 : String) (by_ : Nat) (k : IntKind) (x y : Int) (fs : List Field), nm ≠ "_" → xs[off]? = some (.int k x) → ys[off]? = some (.int k y) →
      (Op.eqFields 9999 xs ys (⟨nm, 33, off, false, x1, x2, by_⟩ :: fs)).run Tryz.prog w = if x = y then (Op.eqFields 9999 xs ys fs).run Tryz.prog w else .ok false w := by
    intro xs ys nm off x1 x2 by_ k x y fs hn h1 h2
    rw [Op.eqFields.eq_2, if_pos hn, Sem.run_bind, hp48 _ _ _ _ h1]
    simp only [Result.andThen]
    rw [Sem.run_bind, hp48 _ _ _ _ h2]
    simp only [Result.andThen]
    rw [Sem.run_bind, h48]
    simp only [Result.andThen]
    by_cases e : x = y <;> simp [e]
  have step9 : ∀ (xs ys : Array Value) (nm : String) (off : Nat) (x1 x2 : String) (by_ : Nat) (x y : ByteArray) (fs : List Field), nm ≠ "_" → xs[off]? = some (.string x) → ys[off]? = some (.string y) →
      (Op.eqFields 9999 xs ys (⟨nm, 9, off, false, x1, x2, by_⟩ :: fs)).run Tryz.prog w = if x = y then (Op.eqFields 9999 xs ys fs).run Tryz.prog w else .ok false w := by
    intro xs ys nm off x1 x2 by_ x y fs hn h1 h2
    rw [Op.eqFields.eq_2, if_pos hn, Sem.run_bind, hp9 _ _ _ _ h1]
    simp only [Result.andThen]
    rw [Sem.run_bind, hp9 _ _ _ _ h2]
    simp only [Result.andThen]
    rw [Sem.run_bind, h9]
    simp only [Result.andThen]
    rw [bytes_beq']
    by_cases e : x = y <;> simp [e]
  obtain ⟨a1, a2, a3⟩ := a
  obtain ⟨b1, b2, b3⟩ := b
  rw [step9 _ _ _ _ _ _ _ a1 b1 _ (by decide) rfl rfl, step3 _ _ _ _ _ _ _ .i64 a2 b2 _ (by decide) rfl rfl, step48 _ _ _ _ _ _ _ .u64 a3 b3 _ (by decide) rfl rfl]
  simp only [Op.eqFields, Sem.run_pure]
  by_cases e1 : a1 = b1 <;> by_cases e2 : a2 = b2 <;> by_cases e3 : a3 = b3 <;> simp [e1, e2, e3]
theorem node_bits (a : Nd) : Instr.sameBits 10000 a.val a.val = true := by
  unfold Instr.sameBits
  simp [Instr.sameBits, bytes_beq]
theorem node_key : KeyOk Tryz.prog 45 Nd.val where
  check := node_check
  eq := node_eq
  now a b k hk := by rw [Tryz.underlying45] at hk; cases hk; exact .inl rfl
  stays := node_bits
  und := ⟨_, Tryz.underlying45⟩
theorem str_key : KeyOk Tryz.prog 9 sv where
  check e a w := checkKey_scalar e 9999 Tryz.runUnderlying9 trivial w
  eq a b w := by
    show (Op.equalIn 10000 9 (sv a) (sv b)).run Tryz.prog w = _
    rw [run_equalIn_string w 9999 _ a b Tryz.underlying9, bytes_beq']
  now a b k hk := by rw [Tryz.underlying9] at hk; cases hk; exact .inr (by simp [Instr.sameNow, bytes_beq])
  stays a := by unfold Instr.sameBits; simp [bytes_beq]
  und := ⟨_, Tryz.underlying9⟩
theorem int_key : KeyOk Tryz.prog 3 iv where
  check e a w := checkKey_scalar e 9999 Tryz.runUnderlying3 trivial w
  eq a b w := by
    show (Op.equalIn 10000 3 (iv a) (iv b)).run Tryz.prog w = _
    rw [run_equalIn_int w 9999 _ .i64 .i64 a b Tryz.underlying3]; by_cases h : a = b <;> simp [h]
  now a b k hk := by rw [Tryz.underlying3] at hk; cases hk; exact .inr (by by_cases h : a = b <;> simp [Instr.sameNow, h])
  stays a := by unfold Instr.sameBits; simp
  und := ⟨_, Tryz.underlying3⟩

/-- A place of the walk through a store. -/
structure Pl where
  t : Int
  next : Int
def Pl.cells (p : Pl) : List Value := [.int .i64 p.t, .int .i64 p.next]
/-- What the reader of a text panics with. -/
def faultV : Pf := ⟨fun e => .iface 105 (.agg #[.int .i64 e]), emp⟩
/-! ## A store, a maker -/
structure St where
  limit : Int
  all : List Nd
  found : List (Nd × Int)
  names : List (ByteArray × Int)
/-- A store of the program lies at p. -/
def stAt (p : Nat) (s : St) : HP := ex fun (x : Value × Nat × Nat) =>
  sep [pt p (.cells #[.int .i64 s.limit, x.1, .map (some x.2.1), .map (some x.2.2)] 80 (0, 0)), slc 45 7 x.1 s.all.length (fl Nd.cells s.all), mapAt Nd.val iv x.2.1 s.found, mapAt sv iv x.2.2 s.names]
section
variable {P : Program} {n : Fs} {w0 : Ctx} {N : Cn} {X : Nat → Cn} {R : Cn} {f : Frm} {L : List HP}
theorem Sat.flat {w : World} {M : List HP} (s : Sat w0 (sep M :: L) w) : Sat w0 (M ++ L) w := s.eq (by rw [sep_cons, sep_append])
theorem Sat.unflat {w : World} {M : List HP} (s : Sat w0 (M ++ L) w) : Sat w0 (sep M :: L) w := s.eq (by rw [sep_cons, sep_append])
theorem Sat.ex0 {w : World} {α : Type} {A : α → HP} (s : Sat w0 (ex A :: L) w) : ∃ x, Sat w0 (A x :: L) w := by
  obtain ⟨b, h, q, h1, h2, d, e, ⟨x, a⟩, r⟩ := s
  exact ⟨x, b, h, q, h1, h2, d, e, a, r⟩
theorem Sat.mkEx {w : World} {α : Type} {A : α → HP} (x : α) (s : Sat w0 (A x :: L) w) : Sat w0 (ex A :: L) w := by
  obtain ⟨b, h, q, h1, h2, d, e, a, r⟩ := s
  exact ⟨b, h, q, h1, h2, d, e, ⟨x, a⟩, r⟩
/-- The store is laid open. -/
theorem WP.openSt {c : Code} {p : Nat} {s : St} (k : ∀ (v : Value) (mf mn : Nat), WP P n w0 c N X R f (pt p (.cells #[.int .i64 s.limit, v, .map (some mf), .map (some mn)] 80 (0, 0)) :: slc 45 7 v s.all.length (fl Nd.cells s.all) ::
      mapAt Nd.val iv mf s.found :: mapAt sv iv mn s.names :: L)) : WP P n w0 c N X R f (stAt p s :: L) :=
  fun Q hE hn hx hr a w fr st => by
    obtain ⟨⟨v, mf, mn⟩, st⟩ := st.ex0
    exact k v mf mn Q hE hn hx hr a w fr st.flat
theorem stAt_close {w : World} {p : Nat} {s : St} {v : Value} {mf mn : Nat} (st : Sat w0 (pt p (.cells #[.int .i64 s.limit, v, .map (some mf), .map (some mn)] 80 (0, 0)) :: slc 45 7 v s.all.length (fl Nd.cells s.all) ::
      mapAt Nd.val iv mf s.found :: mapAt sv iv mn s.names :: L) w) : Sat w0 (stAt p s :: L) w :=
  Sat.mkEx (A := fun (x : Value × Nat × Nat) => sep [pt p (.cells #[.int .i64 s.limit, x.1, .map (some x.2.1), .map (some x.2.2)] 80 (0, 0)), slc 45 7 x.1 s.all.length (fl Nd.cells s.all), mapAt Nd.val iv x.2.1 s.found, mapAt sv iv x.2.2 s.names])
    (v, mf, mn) (Sat.unflat (M := [_, _, _, _]) st)
theorem stAt_new {w0 w : World} {L : List HP} {p m1 m2 : Nat} {l : Int} (s : Sat w0 (pt p (.cells #[.int .i64 l, .slice none 0 0, .map (some m1), .map (some m2)] 80 (0, 0)) :: mapAt Nd.val iv m1 [] :: mapAt sv iv m2 [] :: L) w) : Sat w0 (stAt p ⟨l, [], [], []⟩ :: L) w :=
  stAt_close (w0 := ⟨w0, fun _ _ _ => False⟩) (s := ⟨l, [], [], []⟩) (v := .slice none 0 0) (mf := m1) (mn := m2) (s.eq (by
    rw [show slc 45 7 (.slice none 0 0) ([] : List Nd).length (fl Nd.cells []) = emp from slc_nil _ _]
    simp only [sep_cons, emp_star]))
end
end Go.Proofs.YtlnionilhagenaaGreatDoor
