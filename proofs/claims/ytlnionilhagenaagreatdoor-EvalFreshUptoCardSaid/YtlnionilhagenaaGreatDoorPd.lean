import Derived.Test.YtlnionilhagenaaGreatDoorPc
/-! # The plain half: variables; nothing put -/
namespace Go.Proofs.YtlnionilhagenaaGreatDoor
open Go.RowKit
set_option linter.all false
section
variable {S : St} (hw : Wf S) (hl : S.all.length ≤ 2097152)
include hw hl
/-- An element of the order, and its parts. -/
theorem ordered_at {roots l : List Int} (ho : Ordered S roots l) {i : Nat} {t : Int} (h : l[i]? = some t) : ∃ n, s_St_Node S t = some (n, 0) ∧ PartsOk n (t - 1).toNat ∧ ∀ j, 0 ≤ j → j < 3 → part3 n j ≠ 0 → part3 n j ∈ l.take i := by
  obtain ⟨h1, h2, h3⟩ := ho.cl i t h
  obtain ⟨n, e1, e2⟩ := node_at (S := S) (by omega) h1 h2
  refine ⟨n, e1, hw.pr _ _ e2, fun j h0 hj hne => ?_⟩
  rcases Int.lt_or_le j (s_parts n.Op) with q | q
  · exact h3 n e2 j h0 q
  · exact absurd ((hw.pr _ _ e2).no j q hj) hne
theorem vars_l0 {roots l : List Int} (ho : Ordered S roots l) : ∀ (k i : Nat) (acc : List Vl), l.length < i + k → i ≤ l.length → acc.length ≤ i → Ok (s_Ev_Vars_l0 S (l, 0) k i acc) fun r => r.2 = 0 ∧ r.1.length ≤ l.length := by
  intro k
  induction k with
  | zero => intro i acc h h2 _; omega
  | succ k ih =>
    intro i acc hk hi ha
    have hlen := ho.len
    rw [s_Ev_Vars_l0.eq_2]
    refine Ok.cond (fun h => ?_) (fun h => ?_)
    · have hlt : i < l.length := by have : (i : Int) < l.length := by simpa using h
                                    omega
      have hget : l[i]? = some l[i] := by simp [hlt]
      generalize l[i] = t at hget
      obtain ⟨n, en, _⟩ := ordered_at hw hl ho hget
      rw [getI_eq (by omega), Int.toNat_natCast, hget]
      simp only [Option.bind_some, en]
      rw [i64 (by omega)]
      refine Ok.cond (fun _ => ?_) (fun _ => ?_)
      · refine Ok.ite (by omega) ?_
        have := ih (i + 1) (acc ++ [⟨n.Name, n.W, 0⟩]) (by omega) (by omega) (by simp; omega)
        simpa using this
      · have := ih (i + 1) acc (by omega) (by omega) (by omega)
        simpa using this
    · exact Ok.some ⟨rfl, by show acc.length ≤ _; omega⟩
theorem vars_ok {roots : List Int} (hr : ∀ t, t ∈ roots → 1 ≤ t ∧ t ≤ S.all.length) (hrl : roots.length ≤ 2097152) : Ok (s_Ev_Vars K S roots) fun r => r.2 = 0 ∧ r.1.length ≤ S.all.length + 1 := by
  unfold s_Ev_Vars
  refine Ok.bind (order_ok hw hl hr hrl) (fun x _ hx => ?_)
  obtain ⟨l, e⟩ := x
  obtain ⟨he, ho⟩ := hx
  have he : e = 0 := he
  subst he
  have ho : Ordered S roots l := ho
  refine Ok.cond (fun h => by simp at h) (fun _ => ?_)
  have := vars_l0 hw hl ho K 0 [] (show _ < 0 + 16777216 by have := ho.len; omega) (Nat.zero_le _) (Nat.zero_le _)
  have h2 : Ok (s_Ev_Vars_l0 S (l, 0) K 0 []) fun r => r.2 = 0 ∧ r.1.length ≤ l.length := by simpa using this
  exact h2.mono fun r hr => ⟨hr.1, by have := ho.len; omega⟩
/-- The map tells each of these as itself. -/
def Idn (m : List (Int × Int)) (l : List Int) : Prop := ∀ t, t ∈ l → mget m t = some t
theorem remade_l3 {roots l : List Int} {m : List (Int × Int)} (hm : Idn m roots) (hrl : roots.length ≤ 2097152) : ∀ (k i : Nat), roots.length < i + k → i ≤ roots.length → s_remadeS_l3 roots S m k i (roots.take i) = some (S, roots, ()) := by
  intro k
  induction k with
  | zero => intro i h h2; omega
  | succ k ih =>
    intro i hk hi
    rw [s_remadeS_l3.eq_2]
    by_cases hlt : i < roots.length
    · have hget : roots[i]? = some roots[i] := by simp [hlt]
      have hmem := List.getElem_mem hlt
      rw [show decide ((i : Int) < (roots.length : Int)) = true from by simp; omega]
      simp only [cond_true]
      rw [getI_eq (by omega), Int.toNat_natCast, hget]
      simp only [Option.bind_some]
      rw [if_pos (by simp only [List.length_take]; omega), hm _ hmem, i64 (by omega)]
      have e : roots.take i ++ [(some roots[i]).getD 0] = roots.take (i + 1) := by
        show roots.take i ++ [roots[i]] = _
        simp
      rw [e]
      have := ih (i + 1) (by omega) (by omega)
      simpa using this
    · have e : i = roots.length := by omega
      rw [show decide ((i : Int) < (roots.length : Int)) = false from by simp; omega]
      simp only [cond_false]
      rw [e, List.take_length]
theorem remade_l1 {roots l : List Int} (ho : Ordered S roots l) (hrl : roots.length ≤ 2097152) : ∀ (k i : Nat) (m : List (Int × Int)), l.length < i + k → i ≤ l.length → Idn m (l.take i) →
    s_remadeS_l1 roots false (fun _ => 0) K (l, 0) k i S m = some (S, roots, ()) := by
  intro k
  induction k with
  | zero => intro i m h h2; omega
  | succ k ih =>
    intro i m hk hi hm
    have hlen := ho.len
    rw [s_remadeS_l1.eq_2]
    by_cases hlt : i < l.length
    · have hget : l[i]? = some l[i] := by simp [hlt]
      have htake : l.take (i + 1) = l.take i ++ [l[i]] := by simp
      generalize l[i] = t at hget htake
      obtain ⟨n, en, _, hp⟩ := ordered_at hw hl ho hget
      rw [show decide ((i : Int) < (l.length : Int)) = true from by simp; omega]
      simp only [cond_true]
      rw [getI_eq (by omega), Int.toNat_natCast, hget]
      simp only [Option.bind_some, en]
      have key : s_remadeS_j82 i (s_remadeS_l1 roots false (fun _ => 0) K (l, 0) k) S (mput m t t) = some (S, roots, ()) := by
        unfold s_remadeS_j82
        rw [i64 (by omega)]
        have := ih (i + 1) (mput m t t) (by omega) (by omega) (fun u hu => by
          rw [mget_mput]
          rw [htake] at hu
          rcases List.mem_append.1 hu with h | h
          · split
            · rename_i e; rw [e]
            · exact hm u h
          · simp at h; subst h; simp)
        simpa using this
      have hpart : ∀ v, (v ≠ 0 → v ∈ l.take i) → v ≠ 0 → (mget m v).getD 0 = v := fun v h1 h2 => by rw [hm v (h1 h2)]; rfl
      have hA := hpart n.A (hp 0 (by omega) (by omega))
      have hB := hpart n.B (hp 1 (by omega) (by omega))
      have hC := hpart n.C (hp 2 (by omega) (by omega))
      have j89 : ∀ (a b c : Int), s_remadeS_j89 K i S m t (n, 0) a b (s_remadeS_l1 roots false (fun _ => 0) K (l, 0) k) false c = some (S, roots, ()) := fun a b c => by
        unfold s_remadeS_j89; exact key
      have j88 : ∀ (a b : Int), s_remadeS_j88 K i S m t (n, 0) a (s_remadeS_l1 roots false (fun _ => 0) K (l, 0) k) false b = some (S, roots, ()) := fun a b => by
        unfold s_remadeS_j88
        by_cases h : n.C = 0
        · simp [h, j89]
        · simp [h, hC h, j89]
      have j87 : ∀ (a : Int), s_remadeS_j87 K i S m t (n, 0) (s_remadeS_l1 roots false (fun _ => 0) K (l, 0) k) false a = some (S, roots, ()) := fun a => by
        unfold s_remadeS_j87
        by_cases h : n.B = 0
        · simp [h, j88]
        · simp [h, hB h, j88]
      have j83 : s_remadeS_j83 false K i S m t (n, 0) (s_remadeS_l1 roots false (fun _ => 0) K (l, 0) k) = some (S, roots, ()) := by
        unfold s_remadeS_j83
        by_cases h : n.A = 0
        · simp [h, j87]
        · simp [h, hA h, j87]
      cases n.Op == 4 <;> simp [j83]
    · have e : i = l.length := by omega
      rw [show decide ((i : Int) < (l.length : Int)) = false from by simp; omega]
      simp only [cond_false]
      rw [if_pos ⟨by omega, by omega, by omega⟩]
      have hr : Idn m roots := fun t ht => hm t (by rw [e, List.take_length]; exact ho.all t ht)
      have := remade_l3 hw hl (l := l) hr hrl K 0 (show _ < 0 + 16777216 by omega) (Nat.zero_le _)
      simpa using this
theorem put_nothing {roots : List Int} (hr : ∀ t, t ∈ roots → 1 ≤ t ∧ t ≤ S.all.length) (hrl : roots.length ≤ 2097152) : Ok (s_Ev_Put K S roots [] []) fun r => r.1 = S ∧ r.2.1 = roots := by
  unfold s_Ev_Put
  refine Ok.bind (order_ok hw hl hr hrl) (fun x _ hx => ?_)
  obtain ⟨l, e⟩ := x
  obtain ⟨he, ho⟩ := hx
  have he : e = 0 := he
  subst he
  have ho : Ordered S roots l := ho
  have hlen := ho.len
  refine Ok.cond (fun h => by simp at h) (fun _ => ?_)
  refine Ok.bind (order_ok hw hl (roots := []) (fun t h => by cases h) (by simp)) (fun y _ hy => ?_)
  refine Ok.cond (fun h => by simp [hy.1] at h) (fun _ => ?_)
  have hn : s_Ev_names K [] = some 0 := by unfold s_Ev_names; rfl
  rw [hn]
  simp only [Option.bind_some]
  refine Ok.cond (fun h => by simp at h) (fun _ => ?_)
  refine Ok.cond (fun h => by simp at h) (fun _ => ?_)
  have l1 : s_Ev_Put_l1 S roots [] [] K (l, 0) K 0 [] = s_Ev_Put_l3 S roots K (l, 0) [] K 0 := rfl
  rw [l1]
  have l3 : ∀ (k i : Nat), l.length < i + k → i ≤ l.length → Ok (s_Ev_Put_l3 S roots K (l, 0) [] k i) fun r => r.1 = S ∧ r.2.1 = roots := by
    intro k
    induction k with
    | zero => intro i h h2; omega
    | succ k ih =>
      intro i hk hi
      rw [s_Ev_Put_l3.eq_2]
      refine Ok.cond (fun h => ?_) (fun h => ?_)
      · have hlt : i < l.length := by have : (i : Int) < l.length := by simpa using h
                                      omega
        have hget : l[i]? = some l[i] := by simp [hlt]
        generalize l[i] = t at hget
        obtain ⟨n, en, _⟩ := ordered_at hw hl ho hget
        rw [getI_eq (by omega), Int.toNat_natCast, hget]
        simp only [Option.bind_some, en]
        have hc : ((n.Op != 4) || (((mget ([] : List (ByteArray × Int)) n.Name).getD 0) == 0)) = true := by simp [mget]
        rw [hc]
        unfold s_Ev_Put_j5
        rw [i64 (by omega)]
        have := ih (i + 1) (by omega) (by omega)
        simpa using this
      · have e : s_remadeS K S roots false (fun n_ => (mget ([] : List (ByteArray × Int)) n_.Name).getD 0) = some (S, roots, ()) := by
          unfold s_remadeS
          obtain ⟨x, ex, hx, hox⟩ := order_ok hw hl hr hrl
          obtain ⟨lx, e0⟩ := x
          have hx : e0 = 0 := hx
          subst hx
          rw [ex]
          simp only [Option.bind_some]
          have := remade_l1 hw hl (l := lx) hox hrl K 0 [] (show lx.length < 0 + 16777216 by have h9 : lx.length ≤ S.all.length + 1 := hox.len; omega) (Nat.zero_le _) (fun t h => by simp at h)
          simpa [mget] using this
        rw [e]
        simp only [Option.bind_some]
        exact Ok.lt fun x _ => Ok.some ⟨rfl, rfl⟩
  have := l3 K 0 (show _ < 0 + 16777216 by omega) (Nat.zero_le _)
  simpa using this
end
end Go.Proofs.YtlnionilhagenaaGreatDoor
