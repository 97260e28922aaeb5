import Derived.Test.YtlnionilhagenaaGreatDoorPe
/-! # The plain half: the reading of a text -/
namespace Go.Proofs.YtlnionilhagenaaGreatDoor
open Go.RowKit
set_option linter.all false
/-- What a text that is read comes to. -/
structure Loaded (S : St) (l : List Int) : Prop where
  wf : Wf S
  len : S.all.length ≤ 2000000
  roots : ∀ t, t ∈ l → 1 ≤ t ∧ t ≤ S.all.length
  rl : l.length ≤ 2000001
structure LInv (U : Rd) (roots : List Int) (i : Nat) : Prop where
  wf : Wf U.st
  len : U.st.all.length ≤ i
  tm : ∀ t, t ∈ U.terms → 1 ≤ t ∧ t ≤ U.st.all.length
  tl : U.terms.length ≤ i
  rr : ∀ t, t ∈ roots → 1 ≤ t ∧ t ≤ U.st.all.length
  rl : roots.length ≤ 2000001
theorem LInv.rd {U : Rd} {roots : List Int} {i : Nat} (h : LInv U roots i) (hi : i ≤ 2000000) {w : List ByteArray} (hw : ∀ x, x ∈ w → x.size ≤ 2000000) (hl : w.length ≤ 2000001) : RInv ⟨w, U.terms, U.st⟩ 2000000 :=
  ⟨h.wf, by have := h.len; show U.st.all.length ≤ _; omega, h.tm, by have := h.tl; show U.terms.length ≤ _; omega, hw, hl⟩
theorem load_l49 {P : St × List Int → Prop} (c : Int) (rec_ : Int → Bool → Int → Rd → List Int → Option (Except Int (St × List Int))) : ∀ (k : Nat) (U : Rd) (roots : List Int), RInv U 2000000 → U.w.length < k → roots.length + U.w.length ≤ 2000001 → (∀ t : Int, t ∈ roots → 1 ≤ t ∧ t ≤ U.st.all.length) →
    (∀ V roots', V.st = U.st → V.terms = U.terms → roots'.length ≤ 2000001 → (∀ t : Int, t ∈ roots' → 1 ≤ t ∧ t ≤ U.st.all.length) → Okx (rec_ (IntKind.i64.wrap (c + 1)) true (IntKind.i64.wrap (c + 1)) V roots') P) → Okx (s_Load_l49 K c rec_ k U roots) P := by
  intro k
  induction k with
  | zero => intro U roots _ h; exact absurd h (Nat.not_lt_zero _)
  | succ k ih =>
    intro U roots hi hk hlen hr hrec
    rw [s_Load_l49.eq_2]
    refine Ok.cond (fun h => ?_) (fun _ => ?_)
    · refine Okx.exc (rpart_ok (U := ⟨U.w, U.terms, U.st⟩) (M := 2000000) hi) (fun x _ hx => ?_)
      obtain ⟨hx, h1, h2⟩ := hx
      have hst : x.1.st = U.st := hx.st
      have htm : x.1.terms = U.terms := hx.tm
      obtain ⟨y, hy⟩ := hx.w
      have hy : U.w = y :: x.1.w := hy
      have hwl : U.w.length = x.1.w.length + 1 := by rw [hy]; rfl
      refine Ok.ite (by omega) ?_
      refine ih x.1 (roots ++ [x.2]) (hx.inv hi) (by omega) (by simp; omega) (fun t ht => ?_) (fun V roots' e1 e2 e3 e4 => hrec V roots' (e1.trans hst) (e2.trans htm) e3 (fun t ht => by have := e4 t ht; rw [hst] at this; exact this))
      rw [hst]
      rcases List.mem_append.1 ht with h | h
      · exact hr t h
      · simp at h; subst h; exact ⟨h1, h2⟩
    · unfold s_Load_j6
      exact hrec _ roots rfl rfl (by omega) hr
theorem load_l41 {lines : List ByteArray} (hs : ∀ x, x ∈ lines → x.size ≤ 2000000) (hll : lines.length ≤ 2000000) : ∀ (k i : Nat) (c0 : Int) (ended : Bool) (U : Rd) (roots : List Int), LInv U roots i → (ended = false → roots = []) → lines.length < i + k → i ≤ lines.length →
    Okx (s_Load_l41 K lines k c0 ended i U roots) fun r => Loaded r.1 r.2 := by
  intro k
  induction k with
  | zero => intro i c0 ended U roots _ _ h h2; omega
  | succ k ih =>
    intro i c0 ended U roots inv hem hk hi
    rw [s_Load_l41.eq_2]
    refine Ok.cond (fun h => ?_) (fun _ => ?_)
    · have hlt : i < lines.length := by have : (i : Int) < lines.length := by simpa using h
                                        omega
      have hget : lines[i]? = some lines[i] := by simp [hlt]
      have hsz := hs _ (List.getElem_mem hlt)
      generalize lines[i] = line at hget hsz
      rw [getI_eq (by omega), Int.toNat_natCast, hget]
      simp only [Option.bind_some]
      refine Ok.bind (fields_ok line hsz) (fun w _ hw => ?_)
      refine Ok.cond (fun _ => Okx.error) (fun h => ?_)
      simp only [Bool.or_eq_false_iff, beq_eq_false_iff_ne] at h
      obtain ⟨hend, hne⟩ := h
      have hroots := hem hend
      subst hroots
      obtain ⟨x, ex, _⟩ := getI_some (l := w) (i := 0) (by omega) (by omega)
      rw [ex]
      simp only [Option.bind_some]
      have ir : RInv ⟨w, U.terms, U.st⟩ 2000000 := inv.rd (by omega) hw.1 hw.2
      have e : ((i : Int) + 1) = ((i + 1 : Nat) : Int) := by omega
      refine Ok.cond (fun _ => ?_) (fun _ => ?_)
      · refine Okx.exc (next_ok ir) (fun y _ hy => ?_)
        have iy := hy.1.inv ir
        have hst : y.1.st = U.st := hy.1.st
        have htm : y.1.terms = U.terms := hy.1.tm
        refine load_l49 (i : Int) _ K y.1 [] iy (by have := iy.wl; show _ < 16777216; omega) (by have := iy.wl; simp; omega) (fun t ht => by cases ht) (fun V roots' e1 e2 e3 e4 => ?_)
        rw [i64 (by omega), e]
        refine ih (i + 1) _ true V roots' ⟨?_, ?_, ?_, ?_, ?_, e3⟩ (fun h => by cases h) (by omega) (by omega)
        · rw [e1, hst]; exact inv.wf
        · rw [e1, hst]; have := inv.len; omega
        · rw [e1, e2, hst, htm]; exact inv.tm
        · rw [e2, htm]; have := inv.tl; omega
        · rw [e1]; exact e4
      · refine Okx.exc (rnumber_ok ir) (fun y _ hy => ?_)
        have iy := hy.inv ir
        have hst : y.1.st = U.st := hy.st
        have htm : y.1.terms = U.terms := hy.tm
        refine Ok.cond (fun _ => Okx.error) (fun _ => ?_)
        refine Okx.exc (rnode_ok iy (by omega)) (fun z _ hz => ?_)
        have s1 : Step U.st z.1.st := hst ▸ hz.st
        have t1 : z.1.terms = U.terms := hz.tm.trans htm
        have htl := inv.tl
        refine Ok.ite (by rw [t1]; omega) ?_
        unfold s_Load_j6
        rw [hend]
        rw [i64 (by omega), e]
        refine ih (i + 1) _ false _ [] ⟨s1.wf, ?_, fun t ht => ?_, ?_, fun t ht => (by cases ht), by simp⟩ (fun _ => rfl) (by omega) (by omega)
        · have := s1.up; have := inv.len; show z.1.st.all.length ≤ _; omega
        · have ht : t ∈ z.1.terms ++ [z.2] := ht
          rcases List.mem_append.1 ht with h | h
          · rw [t1] at h
            have := inv.tm t h
            have := s1.le
            show 1 ≤ t ∧ t ≤ z.1.st.all.length
            omega
          · simp at h; subst h
            exact ⟨hz.lo, hz.hi⟩
        · show (z.1.terms ++ [z.2]).length ≤ _
          rw [t1]; simp; omega
    · refine Ok.cond (fun _ => Okx.error) (fun _ => ?_)
      exact Okx.ok ⟨inv.wf, by have := inv.len; show U.st.all.length ≤ _; omega, inv.rr, inv.rl⟩
theorem load_ok (text : ByteArray) (h : text.size ≤ 1999999) : Okx (s_Load K text 0) fun r => Loaded r.1 r.2 := by
  unfold s_Load
  have hn : s_New 0 = some (⟨0, [], [], []⟩, 0) := by unfold s_New; rfl
  rw [hn]
  simp only [Option.bind_some]
  refine Ok.cond (fun h => by simp at h) (fun _ => ?_)
  refine Ok.bind (split_ok text _ h (by decide)) (fun l _ hl => ?_)
  obtain ⟨h1, h2, h3⟩ := hl
  rw [i64 (by omega)]
  obtain ⟨x, ex, _⟩ := getI_some (l := l) (i := (l.length : Int) - 1) (by omega) (by omega)
  rw [ex]
  simp only [Option.bind_some]
  have fin : ∀ m : List ByteArray, (∀ x, x ∈ m → x.size ≤ 2000000) → m.length ≤ 2000000 → Okx (s_Load_j0 K (⟨0, [], [], []⟩, 0) m) fun r => Loaded r.1 r.2 := fun m hm hml => by
    unfold s_Load_j0
    have := load_l41 hm hml K 0 0 false ⟨[], [], ⟨0, [], [], []⟩⟩ [] ⟨wf_new, by simp, fun t ht => (by cases ht), by simp, fun t ht => (by cases ht), by simp⟩ (fun _ => rfl) (show m.length < 0 + 16777216 by omega) (Nat.zero_le _)
    exact this
  refine Ok.cond (fun _ => ?_) (fun _ => fin l h1 h2)
  refine Ok.ite ⟨by omega, by omega⟩ ?_
  exact fin _ (fun x hx => h1 x (List.mem_of_mem_take hx)) (by rw [List.length_take]; omega)
theorem Ok.two {α β : Type} {P : β → Prop} {Q : α → Prop} {x : Option (Except Int α)} {e : Int → Option β} {k : α → Option β} (h : Okx x Q) (he : ∀ q, Ok (e q) P) (hk : ∀ a, Q a → Ok (k a) P) : Ok (two x e k) P := by
  obtain ⟨r, rfl, hr⟩ := h
  cases r with
  | error q => exact he q
  | ok a => exact hk a (hr a rfl)
theorem lload_ok (text : ByteArray) (h : text.size ≤ 1999999) : Okx (s_load K text) fun r => Loaded r.1 r.2 := by
  unfold s_load
  refine Ok.two (load_ok text h) (fun q => ?_) (fun x hx => ?_)
  · refine Ok.lt (fun y _ => ?_)
    exact Ok.ite (by simp) Okx.error
  · refine Ok.lt (fun y ey => ?_)
    have : y = 0 := by rw [← ey]; unfold s_L_no; rfl
    subst this
    exact Ok.ite rfl (Okx.ok hx)
end Go.Proofs.YtlnionilhagenaaGreatDoor
