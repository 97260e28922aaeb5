import Derived.Test.YtlnionilhagenaaGreatDoorPf
import Derived.Test.YtlnionilhagenaaGreatDoorPlive
/-! # The plain half: EvalFresh -/
namespace Go.Proofs.YtlnionilhagenaaGreatDoor
open Go.RowKit
set_option linter.all false
theorem sameInts_self (a : List Int) (h : a.length ≤ 4000000) : s_L_sameInts K a a = some true := by
  unfold s_L_sameInts
  rw [show ((a.length : Int) != (a.length : Int)) = false from by simp]
  simp only [cond_false]
  have : ∀ (k i : Nat), a.length < i + k → i ≤ a.length → s_L_sameInts_l0 a a k i = some true := by
    intro k
    induction k with
    | zero => intro i h h2; omega
    | succ k ih =>
      intro i hk hi
      rw [s_L_sameInts_l0.eq_2]
      by_cases hlt : i < a.length
      · rw [show decide ((i : Int) < (a.length : Int)) = true from by simp; omega]
        simp only [cond_true]
        have hget : a[i]? = some a[i] := by simp [hlt]
        rw [getI_eq (by omega), Int.toNat_natCast, hget]
        simp only [Option.bind_some]
        rw [show (a[i] != a[i]) = false from by simp, i64 (by omega)]
        exact ih (i + 1) (by omega) (by omega)
      · rw [show decide ((i : Int) < (a.length : Int)) = false from by simp; omega]
        rfl
  have h0 := this K 0 (show a.length < 0 + 16777216 by omega) (Nat.zero_le _)
  rw [Int.natCast_zero] at h0
  exact h0
theorem sameVars_self (a : List Vl) (h : a.length ≤ 4000000) : s_L_sameVars K a a = some true := by
  unfold s_L_sameVars
  rw [show ((a.length : Int) != (a.length : Int)) = false from by simp]
  simp only [cond_false]
  have : ∀ (k i : Nat), a.length < i + k → i ≤ a.length → s_L_sameVars_l0 a a k i = some true := by
    intro k
    induction k with
    | zero => intro i h h2; omega
    | succ k ih =>
      intro i hk hi
      rw [s_L_sameVars_l0.eq_2]
      by_cases hlt : i < a.length
      · rw [show decide ((i : Int) < (a.length : Int)) = true from by simp; omega]
        simp only [cond_true]
        have hget : a[i]? = some a[i] := by simp [hlt]
        rw [getI_eq (by omega), Int.toNat_natCast, hget]
        simp only [Option.bind_some]
        simp only [decide_true, Bool.not_true, cond_false]
        rw [i64 (by omega)]
        exact ih (i + 1) (by omega) (by omega)
      · rw [show decide ((i : Int) < (a.length : Int)) = false from by simp; omega]
        rfl
  have h0 := this K 0 (show a.length < 0 + 16777216 by omega) (Nat.zero_le _)
  rw [Int.natCast_zero] at h0
  exact h0
theorem getI_last {α : Type} (l : List α) (a : α) (h : l.length ≤ 4000000) : getI (l ++ [a]) (IntKind.i64.wrap (((l ++ [a]).length : Int) - 1)) = some a := by
  have e : (((l ++ [a]).length : Int) - 1) = (l.length : Int) := by simp
  rw [e, i64 (by omega), getI_eq (by omega)]
  simp
theorem fresh_l3 {S : St} {l : List Int} {v : List Vl} (hl : l.length ≤ 4000000) (hv : v.length ≤ 4000000) (x20 : St × (List Int × Int)) (e1 : x20.1 = S) (e2 : x20.2.1 = l) (hvars : s_Ev_Vars K S l = some (v, 0)) (c : List Vl) (hc : c.length ≤ 4000000) :
    ∀ (k i : Nat) (m : List Int), m.length ≤ 4000000 → m.length < i + k → i ≤ m.length → s_EvalFresh_l3 K (S, l) (v, 0) x20 c k i m = some true := by
  intro k
  induction k with
  | zero => intro i m _ h h2; omega
  | succ k ih =>
    intro i m hm hk hi
    rw [s_EvalFresh_l3.eq_2]
    by_cases hlt : i < m.length
    · rw [show decide ((i : Int) < (m.length : Int)) = true from by simp; omega]
      simp only [cond_true]
      have hget : m[i]? = some m[i] := by simp [hlt]
      rw [getI_eq (by omega), Int.toNat_natCast, hget]
      simp only [Option.bind_some]
      rw [i64 (by omega)]
      exact ih (i + 1) (m.set i (-1)) (by simpa using hm) (by simpa using by omega) (by simp; omega)
    · rw [show decide ((i : Int) < (m.length : Int)) = false from by simp; omega]
      simp only [cond_false]
      rw [if_pos (by omega), e1, hvars]
      simp only [Option.bind_some]
      unfold lt
      have hno : s_L_no (0 : Int) = 0 := by unfold s_L_no; rfl
      simp only [hno, e2, sameVars_self v hv, sameInts_self l hl, getI_last c _ hc, getI_last m 5 hm, opt]
      simp
theorem fresh_l1 {S : St} {l : List Int} {v : List Vl} (hl : l.length ≤ 4000000) (hv : v.length ≤ 4000000) (x16 x20 : St × (List Int × Int)) (e0 : x16.2.1 = l) (e1 : x20.1 = S) (e2 : x20.2.1 = l) (hvars : s_Ev_Vars K S l = some (v, 0)) :
    ∀ (k i : Nat) (c : List Vl), c.length ≤ 4000000 → c.length < i + k → i ≤ c.length → s_EvalFresh_l1 K (S, l) (v, 0) x16 x20 k i c = some true := by
  intro k
  induction k with
  | zero => intro i c _ h h2; omega
  | succ k ih =>
    intro i c hc hk hi
    rw [s_EvalFresh_l1.eq_2]
    by_cases hlt : i < c.length
    · rw [show decide ((i : Int) < (c.length : Int)) = true from by simp; omega]
      simp only [cond_true]
      have hget : c[i]? = some c[i] := by simp [hlt]
      rw [getI_eq (by omega), Int.toNat_natCast, hget]
      simp only [Option.bind_some]
      obtain ⟨y, ey, _⟩ := getI_some (l := c.set i ⟨ByteArray.mk #[120], c[i].W, c[i].Num⟩) (i := (i : Int)) (by omega) (by simp; omega)
      rw [ey]
      simp only [Option.bind_some]
      rw [i64 (by omega)]
      exact ih (i + 1) _ (by simpa using hc) (by simpa using by omega) (by simp; omega)
    · rw [show decide ((i : Int) < (c.length : Int)) = false from by simp; omega]
      simp only [cond_false]
      rw [if_pos (by omega), e0]
      have h0 := fresh_l3 hl hv x20 e1 e2 hvars c hc K 0 l hl (show l.length < 0 + 16777216 by omega) (Nat.zero_le _)
      rw [Int.natCast_zero] at h0
      exact h0
/-- EvalFresh comes to true. -/
theorem fresh_true (text : ByteArray) (h : text.size ≤ 1999999) : s_EvalFresh K text = some true := by
  have key : Ok (s_EvalFresh K text) fun b => b = true := by
    unfold s_EvalFresh
    rw [show s_live K = some true from live_true]
    simp only [Option.bind_some]
    refine Ok.cond (fun h => by simp at h) (fun _ => ?_)
    refine Ok.two (lload_ok text h) (fun q => Ok.some rfl) (fun x hx => ?_)
    obtain ⟨S, l⟩ := x
    obtain ⟨hw, hlen, hr, hrl⟩ := hx
    have hw : Wf S := hw
    have hlen : S.all.length ≤ 2000000 := hlen
    have hr : ∀ t, t ∈ l → 1 ≤ t ∧ t ≤ (S.all.length : Int) := hr
    have hrl : l.length ≤ 2000001 := hrl
    refine Ok.ite (by show l.length * 8 ≤ _; omega) ?_
    obtain ⟨⟨v, e⟩, ev, he, hv⟩ := vars_ok hw (by omega) hr (by omega)
    have he : e = 0 := he
    subst he
    have hv : v.length ≤ S.all.length + 1 := hv
    show Ok ((s_Ev_Vars K S l).bind _) _
    rw [ev]
    simp only [Option.bind_some]
    obtain ⟨x16, e16, a16, b16⟩ := put_nothing hw (by omega) hr (by omega)
    show Ok ((s_Ev_Put K S l [] []).bind _) _
    rw [e16]
    simp only [Option.bind_some]
    rw [a16, e16]
    simp only [Option.bind_some]
    refine Ok.ite (by show v.length * 32 ≤ _; omega) ?_
    have h0 := fresh_l1 (S := S) (l := l) (by omega) (by omega) x16 x16 b16 a16 b16 ev K 0 v (by omega) (show v.length < 0 + 16777216 by omega) (Nat.zero_le _)
    rw [Int.natCast_zero] at h0
    exact Ok.of h0 rfl
  obtain ⟨b, e, rfl⟩ := key
  exact e
end Go.Proofs.YtlnionilhagenaaGreatDoor
