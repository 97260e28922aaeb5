import Derived.Test.YtlnionilhagenaaGreatDoorFr
/-! # The plain half: stores -/
namespace Go.Proofs.YtlnionilhagenaaGreatDoor
open Go.RowKit
set_option linter.all false
abbrev K : Nat := 16777216
/-- A function's answer: it comes, and it is such. -/
def Ok {α : Type} (x : Option α) (P : α → Prop) : Prop := ∃ r, x = some r ∧ P r
section
variable {α β : Type} {P : α → Prop}
theorem Ok.some {a : α} (h : P a) : Ok (some a) P := ⟨a, rfl, h⟩
theorem Ok.of {x : Option α} {a : α} (e : x = .some a) (h : P a) : Ok x P := ⟨a, e, h⟩
theorem Ok.cond {b : Bool} {x y : Option α} (h : b = true → Ok x P) (k : b = false → Ok y P) : Ok (cond b x y) P := by
  cases b with
  | true => exact h rfl
  | false => exact k rfl
theorem Ok.lt {e : β} {k : β → Option α} (h : ∀ x, e = x → Ok (k x) P) : Ok (lt e k) P := h e rfl
theorem Ok.bind {e : Option β} {Q : β → Prop} {k : β → Option α} (h : Ok e Q) (g : ∀ x, e = .some x → Q x → Ok (k x) P) : Ok (e.bind k) P := by
  obtain ⟨x, rfl, hx⟩ := h
  exact g x rfl hx
theorem Ok.ite {c : Prop} [Decidable c] {x : Option α} (h : c) (k : Ok x P) : Ok (if c then x else none) P := by rw [if_pos h]; exact k
theorem Ok.mono {Q : α → Prop} {x : Option α} (h : Ok x P) (k : ∀ a, P a → Q a) : Ok x Q := let ⟨a, e, p⟩ := h; ⟨a, e, k a p⟩
/-- .. or it panics. -/
def Okx {α : Type} (x : Option (Except Int α)) (P : α → Prop) : Prop := Ok x fun r => ∀ a, r = .ok a → P a
theorem Okx.ok {a : α} (h : P a) : Okx (.some (.ok a)) P := ⟨_, rfl, fun b e => by cases e; exact h⟩
theorem Okx.error {q : Int} : Okx (.some (.error q)) P := ⟨_, rfl, fun b e => nomatch e⟩
theorem Okx.exc {Q : β → Prop} {x : Option (Except Int β)} {k : β → Option (Except Int α)} (h : Okx x Q) (g : ∀ b, x = .some (.ok b) → Q b → Okx (k b) P) : Okx (exc x k) P := by
  obtain ⟨r, rfl, hr⟩ := h
  cases r with
  | error q => exact Okx.error
  | ok b => exact g b rfl (hr b rfl)
end
theorem i64 {n : Int} (h : -9223372036854775808 ≤ n ∧ n ≤ 9223372036854775807) : IntKind.i64.wrap n = n := IntWalk.i64_in n h
theorem getI_some {α : Type} {l : List α} {i : Int} (h0 : 0 ≤ i) (h1 : i < l.length) : ∃ a, getI l i = some a ∧ l[i.toNat]? = some a := by
  have : i.toNat < l.length := by omega
  refine ⟨l[i.toNat], ?_, by simp [this]⟩
  unfold getI
  rw [if_pos h0]; simp [this]
theorem getI_eq {α : Type} {l : List α} {i : Int} (h0 : 0 ≤ i) : getI l i = l[i.toNat]? := by unfold getI; rw [if_pos h0]
theorem parts_range (op : Int) : 0 ≤ s_parts op ∧ s_parts op ≤ 3 := by
  unfold s_parts
  cases (op == 1) || ((op == 2) || ((op == 3) || (op == 4))) with
  | true => simp
  | false =>
    cases (op == 5) || ((op == 15) || ((op == 16) || ((op == 31) || ((op == 32) || (op == 33))))) with
    | true => simp
    | false => cases (op == 14) <;> simp
/-- The j-th part. -/
def part3 (n : Nd) (j : Int) : Int := if j = 0 then n.A else if j = 1 then n.B else n.C
/-- Parts of a node lie before it; what is no part is 0. -/
structure PartsOk (n : Nd) (i : Nat) : Prop where
  ok : ∀ j, 0 ≤ j → j < s_parts n.Op → 1 ≤ part3 n j ∧ part3 n j ≤ i
  no : ∀ j, s_parts n.Op ≤ j → j < 3 → part3 n j = 0
structure Wf (S : St) : Prop where
  lim : S.limit = 0
  pr : ∀ i n, S.all[i]? = some n → PartsOk n i
  fnd : ∀ n i, mget S.found n = some i → 1 ≤ i ∧ i ≤ S.all.length
theorem wf_new : Wf ⟨0, [], [], []⟩ := ⟨rfl, fun i n h => by simp at h, fun n i h => by simp [mget] at h⟩
theorem mget_mput {α β : Type} [DecidableEq α] (l : List (α × β)) (a b : α) (v : β) : mget (mput l a v) b = if a = b then some v else mget l b := by
  induction l with
  | nil => simp [mput, mget]
  | cons p l ih =>
    obtain ⟨x, c⟩ := p
    by_cases h : x = a
    · subst h; by_cases h2 : x = b <;> simp [mput, mget, h2]
    · by_cases h2 : x = b
      · subst h2; simp [mput, mget, h]; exact fun e => absurd e.symm h
      · simp [mput, mget, h, h2, ih]
section
variable {S : St} (hl : S.all.length ≤ 4194304)
include hl
theorem w_some (t : Int) : ∃ r, s_St_w S t = some r := by
  unfold s_St_w lt
  unfold s_St_is
  cases h : (decide (1 ≤ t)) && (decide (t ≤ (S.all.length : Int))) with
  | false => exact ⟨_, rfl⟩
  | true =>
    simp only [Bool.and_eq_true, decide_eq_true_eq] at h
    rw [i64 (by omega)]
    obtain ⟨a, ha, _⟩ := getI_some (l := S.all) (i := t - 1) (by omega) (by omega)
    simp only [Bool.not_true, cond_false, ha, Option.bind_some]
    exact ⟨_, rfl⟩
theorem sorted_some (n : Nd) : ∃ r, s_St_sorted S n = some r := by
  unfold s_St_sorted lt
  obtain ⟨a, ha⟩ := w_some hl n.A
  obtain ⟨b, hb⟩ := w_some hl n.B
  obtain ⟨c, hc⟩ := w_some hl n.C
  simp only [ha, hb, Option.bind_some]
  cases s_parts n.Op == 0 <;> simp only [cond_true, cond_false] <;> try exact ⟨_, rfl⟩
  cases n.Op == 5 <;> simp only [cond_true, cond_false] <;> try exact ⟨_, rfl⟩
  cases ((n.Op == 6) || (n.Op == 7)) || (n.Op == 8) <;> simp only [cond_true, cond_false] <;> try exact ⟨_, rfl⟩
  cases n.Op == 9 <;> simp only [cond_true, cond_false] <;> try exact ⟨_, rfl⟩
  cases n.Op == 14 <;> simp only [cond_true, cond_false]
  · cases n.Op == 30 <;> simp only [cond_true, cond_false] <;> try exact ⟨_, rfl⟩
    cases s_parts n.Op == 1 <;> exact ⟨_, rfl⟩
  · cases a == 0 <;> simp only [opt, cond_true, cond_false, hc, Option.bind_some] <;> exact ⟨_, rfl⟩
theorem wide_some (n : Nd) : ∃ r, s_St_wide S n = some r := by
  unfold s_St_wide lt
  obtain ⟨a, ha⟩ := w_some hl n.A
  obtain ⟨b, hb⟩ := w_some hl n.B
  simp only [ha, hb, Option.bind_some]
  cases (((n.Op == 1) || (n.Op == 2)) || ((decide (5 ≤ n.Op)) && (decide (n.Op ≤ 13)))) <;> simp only [cond_true, cond_false] <;> try exact ⟨_, rfl⟩
  cases n.Op == 3 <;> simp only [cond_true, cond_false] <;> try exact ⟨_, rfl⟩
  cases n.Op == 4 <;> simp only [cond_true, cond_false] <;> try exact ⟨_, rfl⟩
  cases n.Op == 14 <;> simp only [cond_true, cond_false] <;> try exact ⟨_, rfl⟩
  cases ((decide (25 ≤ n.Op)) && (decide (n.Op ≤ 29))) <;> simp only [cond_true, cond_false] <;> try exact ⟨_, rfl⟩
  cases n.Op == 30 <;> simp only [cond_true, cond_false] <;> try exact ⟨_, rfl⟩
  cases n.Op == 31 <;> simp only [cond_true, cond_false] <;> try exact ⟨_, rfl⟩
  cases ((n.Op == 32) || (n.Op == 33)) <;> exact ⟨_, rfl⟩
/-- A node that is there. -/
theorem node_at {t : Int} (h1 : 1 ≤ t) (h2 : t ≤ S.all.length) : ∃ n, s_St_Node S t = some (n, 0) ∧ S.all[(t - 1).toNat]? = some n := by
  unfold s_St_Node lt s_St_is
  have h : ((decide (1 ≤ t)) && (decide (t ≤ (S.all.length : Int)))) = true := by simp [h1, h2]
  rw [h, i64 (by omega)]
  obtain ⟨a, ha, hb⟩ := getI_some (l := S.all) (i := t - 1) (by omega) (by omega)
  exact ⟨a, by simp [ha], hb⟩
end
end Go.Proofs.YtlnionilhagenaaGreatDoor
