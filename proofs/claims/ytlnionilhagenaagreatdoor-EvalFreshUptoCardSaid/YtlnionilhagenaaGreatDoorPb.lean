import Derived.Test.YtlnionilhagenaaGreatDoorPa
import Derived.Lib.FieldsU
import Derived.Lib.DecodeN
/-! # The plain half: a store's making -/
namespace Go.Proofs.YtlnionilhagenaaGreatDoor
open Go.RowKit
set_option linter.all false
theorem cond_if {α : Type} (b : Bool) (x y : α) : cond b x y = if b = true then x else y := by cases b <;> rfl
theorem width_pos (s : ByteArray) (pos : Nat) (h : pos < s.size) : 1 ≤ (Utf8.decode s pos).2 := by
  unfold Utf8.decode
  simp only
  repeat' split
  all_goals simp
theorem name_l0 (s : ByteArray) : ∀ (k i : Nat), s.size - i < k → ∃ r, s_Name_l0 s k i = some r := by
  intro k
  induction k with
  | zero => intro i h; exact absurd h (Nat.not_lt_zero _)
  | succ k ih =>
    intro i h
    unfold s_Name_l0
    simp only [cond_if]
    split
    · rename_i hlt
      split
      · exact ⟨_, rfl⟩
      · have hlt : i < s.size := by simpa using hlt
        have := width_pos s i hlt
        exact ih _ (by omega)
    · exact ⟨_, rfl⟩
theorem name_some (s : ByteArray) : ∃ r, s_Name K s = some r := by
  unfold s_Name
  simp only [cond_if]
  split
  · exact ⟨_, rfl⟩
  · rename_i h
    simp only [Bool.or_eq_true, decide_eq_true_eq, not_or] at h
    exact name_l0 s _ _ (show s.size - 0 < 16777216 by omega)
/-- A store that is wider by a node at the most. -/
structure Step (S S' : St) : Prop where
  wf : Wf S'
  le : S.all.length ≤ S'.all.length
  up : S'.all.length ≤ S.all.length + 1
theorem Step.refl {S : St} (h : Wf S) : Step S S := ⟨h, Nat.le_refl _, Nat.le_succ _⟩
theorem is_iff {S : St} {t : Int} : s_St_is S t = true ↔ 1 ≤ t ∧ t ≤ S.all.length := by
  unfold s_St_is; simp
theorem spare_parts {n : Nd} (h : s_St_spare n = false) : ∀ j, s_parts n.Op ≤ j → j < 3 → part3 n j = 0 := by
  unfold s_St_spare lt at h
  simp only [Bool.or_eq_false_iff, Bool.and_eq_false_iff, decide_eq_false_iff_not, bne_eq_false_iff_eq] at h
  obtain ⟨⟨⟨⟨h1, h2⟩, h3⟩, _⟩, _⟩ := h
  have hr := parts_range n.Op
  intro j hj hj3
  unfold part3
  rcases h1 with h1 | h1 <;> rcases h2 with h2 | h2 <;> rcases h3 with h3 | h3 <;> (repeat' split) <;> first | assumption | omega
theorem grow_wf {S : St} {n : Nd} {ns : List (ByteArray × Int)} (hw : Wf S) (hp : PartsOk n S.all.length) : Step S ⟨S.limit, S.all ++ [n], mput S.found n ((S.all ++ [n]).length : Int), ns⟩ := by
  refine ⟨⟨hw.lim, fun i m h => ?_, fun m i h => ?_⟩, by simp, by simp⟩
  · simp only [List.getElem?_append] at h
    split at h
    · exact hw.pr i m h
    · have : i = S.all.length := by
        rcases Nat.lt_or_ge i (S.all.length + 1) with q | q
        · omega
        · simp [show i - S.all.length ≠ 0 from by omega] at h
      subst this
      simp at h; subst h; exact hp
  · simp only [mget_mput] at h
    simp only [List.length_append, List.length_cons, List.length_nil] at h ⊢
    split at h
    · cases h; constructor <;> omega
    · have := hw.fnd m i h; omega
theorem make_ok {S : St} (hw : Wf S) (hl : S.all.length ≤ 4194302) (n : Nd) : Ok (s_St_Make K S n) fun r => Step S r.1 ∧ (r.2.2 = 0 → 1 ≤ r.2.1 ∧ r.2.1 ≤ r.1.all.length) := by
  have same : ∀ (t e : Int), e ≠ 0 → Ok (some (S, t, e)) fun r => Step S r.1 ∧ (r.2.2 = 0 → 1 ≤ r.2.1 ∧ r.2.1 ≤ r.1.all.length) := fun t e h => Ok.some ⟨Step.refl hw, fun q => absurd q h⟩
  unfold s_St_Make
  refine Ok.cond (fun _ => same _ _ (by decide)) (fun _ => ?_)
  refine Ok.cond (fun _ => same _ _ (by decide)) (fun _ => ?_)
  refine Ok.lt (fun x10 e10 => ?_)
  refine Ok.lt (fun x14 e14 => ?_)
  refine Ok.cond (fun _ => same _ _ (by decide)) (fun hA => ?_)
  refine Ok.lt (fun x17 e17 => ?_)
  refine Ok.lt (fun x21 e21 => ?_)
  refine Ok.cond (fun _ => same _ _ (by decide)) (fun hB => ?_)
  refine Ok.lt (fun x24 e24 => ?_)
  refine Ok.lt (fun x28 e28 => ?_)
  refine Ok.cond (fun _ => same _ _ (by decide)) (fun hC => ?_)
  refine Ok.lt (fun x31 e31 => ?_)
  refine Ok.cond (fun _ => same _ _ (by decide)) (fun hsp => ?_)
  subst e10 e14 e17 e21 e24 e28 e31
  have hp : PartsOk n S.all.length := by
    refine ⟨fun j h0 h1 => ?_, spare_parts hsp⟩
    have hr := parts_range n.Op
    simp only [Bool.and_eq_false_iff, decide_eq_false_iff_not, Bool.not_eq_false'] at hA hB hC
    unfold part3
    rcases (show j = 0 ∨ j = 1 ∨ j = 2 by omega) with rfl | rfl | rfl
    · exact is_iff.1 (hA.resolve_left (by omega))
    · exact is_iff.1 (hB.resolve_left (by omega))
    · exact is_iff.1 (hC.resolve_left (by omega))
  refine Ok.bind (Q := fun _ => True) (let ⟨b, h⟩ := sorted_some (S := S) (by omega) n; ⟨b, h, trivial⟩) (fun x34 _ _ => ?_)
  refine Ok.cond (fun _ => same _ _ (by decide)) (fun _ => ?_)
  refine Ok.bind (Q := fun _ => True) (let ⟨b, h⟩ := wide_some (S := S) (by omega) n; ⟨b, h, trivial⟩) (fun x37 _ _ => ?_)
  refine Ok.cond (fun _ => same _ _ (by decide)) (fun _ => ?_)
  have hfound : (mget S.found n).isSome = true → 1 ≤ (mget S.found n).getD 0 ∧ (mget S.found n).getD 0 ≤ (S.all.length : Int) := by
    intro h
    cases e : mget S.found n with
    | none => rw [e] at h; cases h
    | some i => exact hw.fnd n i e
  have room : (S.all.length + 1) * 64 ≤ 140737488355328 := by omega
  have hlim : ((decide (0 < S.limit)) && (decide (S.limit ≤ (S.all.length : Int)))) = false := by rw [hw.lim]; rfl
  have fin : ∀ ns : List (ByteArray × Int), Step S ⟨S.limit, S.all ++ [n], mput S.found n ((S.all ++ [n]).length : Int), ns⟩ := fun ns => grow_wf hw hp
  have last : (1 : Int) ≤ ((S.all ++ [n]).length : Int) ∧ ((S.all ++ [n]).length : Int) ≤ ((S.all ++ [n]).length : Int) := by simp; omega
  have rest : ∀ (a b : Option (St × (Int × Int))), (Ok a fun r => Step S r.1 ∧ (r.2.2 = 0 → 1 ≤ r.2.1 ∧ r.2.1 ≤ r.1.all.length)) → (Ok b fun r => Step S r.1 ∧ (r.2.2 = 0 → 1 ≤ r.2.1 ∧ r.2.1 ≤ r.1.all.length)) →
      Ok (cond ((mget S.found n).isSome) (some ((⟨S.limit, S.all, S.found, S.names⟩ : St), ((mget S.found n).getD 0), 0))
        (cond ((decide (0 < S.limit)) && (decide (S.limit ≤ (S.all.length : Int)))) (some ((⟨S.limit, S.all, S.found, S.names⟩ : St), 0, 4))
          (if (S.all.length + 1) * 64 ≤ 140737488355328 then (cond (n.Op == 4) a b) else none))) fun r => Step S r.1 ∧ (r.2.2 = 0 → 1 ≤ r.2.1 ∧ r.2.1 ≤ r.1.all.length) := by
    intro a b ha hb
    refine Ok.cond (fun h => Ok.some ⟨Step.refl hw, fun _ => hfound h⟩) (fun _ => ?_)
    rw [hlim]
    refine Ok.ite room ?_
    exact Ok.cond (fun _ => ha) (fun _ => hb)
  refine Ok.cond (fun _ => ?_) (fun _ => ?_)
  · refine Ok.bind (Q := fun _ => True) (let ⟨b, h⟩ := name_some n.Name; ⟨b, h, trivial⟩) (fun x42 _ _ => ?_)
    refine Ok.cond (fun _ => same _ _ (by decide)) (fun _ => ?_)
    exact rest _ _ (Ok.some ⟨fin _, fun _ => last⟩) (Ok.some ⟨fin _, fun _ => last⟩)
  · exact rest _ _ (Ok.some ⟨fin _, fun _ => last⟩) (Ok.some ⟨fin _, fun _ => last⟩)
end Go.Proofs.YtlnionilhagenaaGreatDoor
