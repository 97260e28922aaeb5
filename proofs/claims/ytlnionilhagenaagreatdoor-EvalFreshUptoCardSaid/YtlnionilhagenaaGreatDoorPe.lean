import Derived.Test.YtlnionilhagenaaGreatDoorPd
/-! # The plain half: numbers' texts, a line's words -/
namespace Go.Proofs.YtlnionilhagenaaGreatDoor
open Go.RowKit
set_option linter.all false
theorem extract_le (s : ByteArray) (a b : Nat) : (s.extract a b).size ≤ s.size := by
  rw [ByteArray.size_extract]; omega
theorem spans_len (p : Nat → Bool) (s : ByteArray) : ∀ (f pos : Nat) (st : Option Nat) (acc : List (Nat × Nat)), (Lib.spansFromP p s f pos st acc).1.length ≤ acc.length + f := by
  intro f
  induction f with
  | zero => intro pos st acc; simp [Lib.spansFromP]
  | succ f ih =>
    intro pos st acc
    unfold Lib.spansFromP
    split
    · split
      · split
        · have := ih (pos + (Utf8.decode s pos).2) none (acc ++ [(‹Nat›, pos)])
          simp at this ⊢; omega
        · have := ih (pos + (Utf8.decode s pos).2) none acc
          omega
      · split
        · rename_i a
          have := ih (pos + (Utf8.decode s pos).2) (some a) acc
          omega
        · have := ih (pos + (Utf8.decode s pos).2) (some pos) acc
          omega
    · simp
theorem fields_ok (s : ByteArray) (h : s.size ≤ 2000000) : Ok (s_FieldsFunc s) fun l => (∀ x, x ∈ l → x.size ≤ 2000000) ∧ l.length ≤ 2000001 := by
  unfold s_FieldsFunc
  refine Ok.ite (by omega) (Ok.some ⟨fun x hx => ?_, ?_⟩)
  · unfold Lib.goFieldsP at hx
    rw [List.mem_map] at hx
    obtain ⟨y, _, rfl⟩ := hx
    have := extract_le s y.1 y.2; omega
  · unfold Lib.goFieldsP Lib.spansOfP
    rw [List.length_map]
    have h1 := spans_len isBlank s s.size 0 none []
    generalize Lib.spansFromP isBlank s s.size 0 none [] = q at h1
    obtain ⟨a, st⟩ := q
    unfold Lib.closeSpans
    simp at h1
    cases st <;> simp <;> omega
theorem splitB_sizes (sep : ByteArray) : ∀ (k : Nat) (s : ByteArray) (x : ByteArray), x ∈ Lib.splitB sep 0 k s → x.size ≤ s.size := by
  intro k
  induction k with
  | zero => intro s x hx; simp [Lib.splitB] at hx; subst hx; exact Nat.le_refl _
  | succ k ih =>
    intro s x hx
    unfold Lib.splitB at hx
    split at hx
    · simp at hx; subst hx; exact Nat.le_refl _
    · rcases List.mem_cons.1 hx with rfl | hx
      · exact extract_le _ _ _
      · exact Nat.le_trans (ih _ x hx) (extract_le _ _ _)
theorem split_ok (s sep : ByteArray) (h : s.size ≤ 1999999) (h1 : 1 ≤ sep.size) : Ok (s_strings_Split s sep) fun l => (∀ x, x ∈ l → x.size ≤ 2000000) ∧ l.length ≤ 2000000 ∧ 1 ≤ l.length := by
  unfold s_strings_Split
  have hc := Lib.countB_le sep h1 s.size s (Nat.le_refl _)
  have hl := Lib.splitB_all sep h1 0 _ s rfl
  refine Ok.ite ⟨by omega, h1⟩ (Ok.some ⟨fun x hx => ?_, by omega, by omega⟩)
  have := splitB_sizes sep _ s x hx; omega
theorem names_ok : Ok s_names fun l => l.length ≤ 100 := by
  have h : (s_names.map List.length) = some 34 := by kernel_rfl
  cases e : s_names with
  | none => rw [e] at h; cases h
  | some l => rw [e] at h; exact Ok.some (by simp at h; omega)
theorem operation_ok (w : ByteArray) : Okx (s_operation K w) fun _ => True := by
  unfold s_operation
  refine Ok.bind names_ok (fun l _ hl => ?_)
  have : ∀ (k i : Nat), l.length < i + k → i ≤ l.length → Okx (s_operation_l0 w l k i) fun _ => True := by
    intro k
    induction k with
    | zero => intro i h h2; omega
    | succ k ih =>
      intro i hk hi
      rw [s_operation_l0.eq_2]
      refine Ok.cond (fun h => ?_) (fun _ => Okx.error)
      have hlt : i < l.length := by have : (i : Int) < l.length := by simpa using h
                                    omega
      have hget : l[i]? = some l[i] := by simp [hlt]
      rw [getI_eq (by omega), Int.toNat_natCast, hget]
      simp only [Option.bind_some]
      refine Ok.cond (fun _ => Okx.ok trivial) (fun _ => ?_)
      rw [i64 (by omega)]
      have := ih (i + 1) (by omega) (by omega)
      exact this
  have := this K 0 (show l.length < 0 + 16777216 by omega) (Nat.zero_le _)
  exact this
theorem cut_ok (s p : ByteArray) : Ok (s_strings_CutPrefix s p) fun r => r.1.size ≤ s.size := by
  unfold s_strings_CutPrefix s_stringslite_CutPrefix s_stringslite_HasPrefix
  have hx : ∀ (b : Bool), (b = true → (p.size : Int) ≤ s.size) → Ok (opt b (subS s 0 (p.size : Int)) (ByteArray.mk #[])) fun _ => True := by
    intro b hb
    cases b with
    | false => exact Ok.some trivial
    | true =>
      unfold opt subS
      refine Ok.ite ⟨by omega, by omega, hb rfl⟩ (Ok.some trivial)
  refine Ok.bind (Q := fun r => r.1.size ≤ s.size) ?_ (fun x _ h => Ok.some h)
  refine Ok.bind (Q := fun b => b = true → (p.size : Int) ≤ s.size) ?_ (fun b _ hb => ?_)
  · refine Ok.bind (hx _ (fun h => by simpa using h)) (fun x _ _ => Ok.some fun h => ?_)
    simp only [Bool.and_eq_true, decide_eq_true_eq] at h
    exact h.1
  · refine Ok.cond (fun _ => Ok.some (Nat.le_refl _)) (fun h => ?_)
    have hb : (p.size : Int) ≤ s.size := hb (by simpa using h)
    unfold subS
    rw [if_pos ⟨by omega, hb, by omega⟩]
    exact Ok.some (extract_le _ _ _)
/-- A number's text is a number, or no number, or too great a one. -/
theorem iparse_ok (s : ByteArray) (base : Int) (hb : base = 10 ∨ base = 16) (h : s.size ≤ 2000000) : Ok (s_iParseUint K s base 64) fun r => r.2 = 0 ∨ r.2 = 1 ∨ r.2 = 2 := by
  have hlen : (bytesL s).length = s.size := by rw [bytesL, List.length_map, Array.length_toList]; rfl
  have l1 : ∀ (j4 : Int) (k i : Nat) (acc : Int), s.size < i + k → i ≤ s.size → Ok (s_iParseUint_l1 s base K s base 64 j4 k false acc i) fun r => r.2 = 0 ∨ r.2 = 1 ∨ r.2 = 2 := by
    intro j4 k
    induction k with
    | zero => intro i acc h h2; omega
    | succ k ih =>
      intro i acc hk hi
      rw [s_iParseUint_l1.eq_2]
      rw [hlen]
      refine Ok.cond (fun h => ?_) (fun _ => Ok.some (.inl rfl))
      have hlt : i < s.size := by have : (i : Int) < s.size := by simpa using h
                                  omega
      obtain ⟨x, hx, _⟩ := getI_some (l := bytesL s) (i := (i : Int)) (by omega) (by omega)
      rw [hx]
      simp only [Option.bind_some]
      have nxt : ∀ acc', Ok (s_iParseUint_j19 i (s_iParseUint_l1 s base K s base 64 j4 k) false acc') fun r => r.2 = 0 ∨ r.2 = 1 ∨ r.2 = 2 := fun acc' => by
        unfold s_iParseUint_j19
        rw [i64 (by omega)]
        have := ih (i + 1) acc' (by omega) (by omega)
        simpa using this
      have j20 : ∀ d, Ok (s_iParseUint_j20 base 64 j4 false acc i (s_iParseUint_l1 s base K s base 64 j4 k) d) fun r => r.2 = 0 ∨ r.2 = 1 ∨ r.2 = 2 := fun d => by
        unfold s_iParseUint_j20
        refine Ok.cond (fun _ => Ok.some (.inr (.inr rfl))) (fun _ => ?_)
        refine Ok.cond (fun _ => Ok.some (.inr (.inl rfl))) (fun _ => ?_)
        refine Ok.cond (fun _ => Ok.some (.inr (.inl rfl))) (fun _ => ?_)
        exact nxt _
      refine Ok.cond (fun h => ?_) (fun _ => ?_)
      · exfalso
        simp only [Bool.and_eq_true, beq_iff_eq] at h
        rcases hb with rfl | rfl <;> simp at h
      · refine Ok.cond (fun _ => j20 _) (fun _ => ?_)
        refine Ok.lt (fun a _ => Ok.lt (fun b _ => ?_))
        refine Ok.cond (fun _ => Ok.lt fun c _ => j20 _) (fun _ => Ok.some (.inr (.inr rfl)))
  have j2 : ∀ j4, Ok (s_iParseUint_j2 s base K s base 64 j4) fun r => r.2 = 0 ∨ r.2 = 1 ∨ r.2 = 2 := fun j4 => by
    unfold s_iParseUint_j2
    have := l1 j4 K 0 0 (show s.size < 0 + 16777216 by omega) (Nat.zero_le _)
    simpa using this
  unfold s_iParseUint
  refine Ok.cond (fun _ => Ok.some (.inr (.inr rfl))) (fun _ => ?_)
  refine Ok.cond (fun _ => ?_) (fun h => ?_)
  · unfold s_iParseUint_j0
    refine Ok.cond (fun h => by simp at h) (fun _ => ?_)
    refine Ok.cond (fun h => by simp at h) (fun _ => ?_)
    unfold s_iParseUint_j1
    refine Ok.cond (fun _ => j2 _) (fun h1 => ?_)
    refine Ok.cond (fun _ => j2 _) (fun h2 => ?_)
    exfalso
    rcases hb with rfl | rfl
    · simp at h1
    · simp at h2
  · exfalso
    rcases hb with rfl | rfl <;> simp at h
theorem parse_ok (s : ByteArray) (base : Int) (hb : base = 10 ∨ base = 16) (h : s.size ≤ 2000000) : Ok (s_ParseUint K s base 64) fun _ => True := by
  unfold s_ParseUint
  refine Ok.bind (iparse_ok s base hb h) (fun x _ hx => ?_)
  refine Ok.cond (fun hne => ?_) (fun _ => Ok.some trivial)
  have hne : x.2 ≠ 0 := by simpa using hne
  unfold s_toError
  rw [if_pos ⟨by omega, hx.resolve_left hne⟩]
  exact Ok.some trivial
theorem number_ok (s : ByteArray) (h : s.size ≤ 2000000) : Ok (s_Number K s) fun _ => True := by
  unfold s_Number
  refine Ok.bind (cut_ok s _) (fun x _ hx => ?_)
  have hxs : x.1.size ≤ 2000000 := by omega
  have : ∀ (k i : Nat), x.1.size - i < k → Ok (s_Number_l1 K x k i) fun _ => True := by
    intro k
    induction k with
    | zero => intro i h; exact absurd h (Nat.not_lt_zero _)
    | succ k ih =>
      intro i hk
      rw [s_Number_l1.eq_2]
      refine Ok.cond (fun h => ?_) (fun _ => ?_)
      · have hlt : i < x.1.size := by simpa using h
        refine Ok.cond (fun _ => Ok.some trivial) (fun _ => ?_)
        have := width_pos x.1 i hlt
        exact ih _ (by omega)
      · refine Ok.bind (parse_ok x.1 _ (by cases x.2 <;> simp) hxs) (fun y _ _ => ?_)
        exact Ok.cond (fun _ => Ok.some trivial) (fun _ => Ok.some trivial)
  exact this K 0 (show x.1.size - 0 < 16777216 by omega)
/-! ## The reader -/
/-- Where a reader stands. -/
structure RInv (U : Rd) (M : Nat) : Prop where
  wf : Wf U.st
  len : U.st.all.length ≤ M
  tm : ∀ t, t ∈ U.terms → 1 ≤ t ∧ t ≤ U.st.all.length
  tl : U.terms.length ≤ 2000000
  ws : ∀ x, x ∈ U.w → x.size ≤ 2000000
  wl : U.w.length ≤ 2000001
/-- The next word was read. -/
structure Read (U V : Rd) : Prop where
  st : V.st = U.st
  tm : V.terms = U.terms
  w : ∃ x, U.w = x :: V.w
theorem Read.inv {U V : Rd} {M : Nat} (h : Read U V) (i : RInv U M) : RInv V M := by
  obtain ⟨x, hx⟩ := h.w
  refine ⟨h.st ▸ i.wf, h.st ▸ i.len, fun t ht => ?_, h.tm ▸ i.tl, fun y hy => i.ws y (by rw [hx]; exact List.mem_cons_of_mem _ hy), ?_⟩
  · rw [h.tm] at ht; rw [h.st]; exact i.tm t ht
  · have := i.wl; rw [hx] at this; simp at this; omega
theorem next_ok {U : Rd} {M : Nat} (hi : RInv U M) : Okx (s_Rd_next U) fun r => Read U r.1 ∧ r.2.size ≤ 2000000 := by
  unfold s_Rd_next
  refine Ok.cond (fun _ => Okx.error) (fun h => ?_)
  cases hw : U.w with
  | nil => rw [hw] at h; simp at h
  | cons x l =>
    have : getI (x :: l) 0 = some x := rfl
    rw [this]
    simp only [Option.bind_some]
    refine Ok.ite ⟨by omega, by simp; omega⟩ (Okx.ok ⟨⟨rfl, rfl, x, by rw [hw]; rfl⟩, hi.ws x (by rw [hw]; simp)⟩)
theorem rnumber_ok {U : Rd} {M : Nat} (hi : RInv U M) : Okx (s_Rd_number K U) fun r => Read U r.1 := by
  unfold s_Rd_number
  refine Okx.exc (next_ok hi) (fun x _ hx => ?_)
  refine Ok.bind (number_ok x.2 hx.2) (fun y _ _ => ?_)
  exact Ok.cond (fun _ => Okx.error) (fun _ => Okx.ok hx.1)
theorem rpart_ok {U : Rd} {M : Nat} (hi : RInv U M) : Okx (s_Rd_part K U) fun r => Read U r.1 ∧ 1 ≤ r.2 ∧ r.2 ≤ U.st.all.length := by
  unfold s_Rd_part
  refine Okx.exc (rnumber_ok hi) (fun x _ hx => ?_)
  refine Ok.cond (fun _ => Okx.error) (fun h => ?_)
  simp only [Bool.or_eq_false_iff, decide_eq_false_iff_not] at h
  have hi' := hx.inv hi
  have := hi'.tl
  rw [i64 (by omega)]
  obtain ⟨t, e1, e2⟩ := getI_some (l := x.1.terms) (i := x.2 - 1) (by omega) (by omega)
  rw [e1]
  simp only [Option.bind_some]
  refine Okx.ok ⟨⟨hx.st, hx.tm, hx.w⟩, ?_⟩
  have := hi'.tm t (List.mem_of_getElem? e2)
  rw [hx.st] at this; exact this
/-- A line's term was made. -/
structure Made1 (U V : Rd) (t : Int) : Prop where
  st : Step U.st V.st
  tm : V.terms = U.terms
  lo : 1 ≤ t
  hi : t ≤ V.st.all.length
theorem make1 {U : Rd} {M : Nat} (hi : RInv U M) (hM : M ≤ 4194302) (n : Nd) (w : List ByteArray) (ts : List Int) (ht : ts = U.terms) (S : St) (hS : S = U.st) : Okx ((s_St_Make K S n).bind fun x => cond (x.2.2 != 0) (some (.error x.2.2)) (some (.ok ((⟨w, ts, x.1⟩ : Rd), x.2.1)))) fun r => Made1 U r.1 r.2 := by
  subst ht hS
  refine Ok.bind (make_ok hi.wf (by have := hi.len; omega) n) (fun x _ hx => ?_)
  refine Ok.cond (fun _ => Okx.error) (fun h => ?_)
  have he : x.2.2 = 0 := by simpa using h
  exact Okx.ok ⟨hx.1, rfl, (hx.2 he).1, (hx.2 he).2⟩
theorem node_j1 {U : Rd} {M : Nat} (hi : RInv U M) (hM : M ≤ 4194302) (x2 a b : Int) (s : ByteArray) (c d e : Int) : Okx (s_Rd_node_j1 K x2 a b s U c d e) fun r => Made1 U r.1 r.2 := by
  have hl : U.st.all.length ≤ 4194304 := by have := hi.len; omega
  have viaR : ∀ {V : Rd}, RInv V M → V.st = U.st → V.terms = U.terms → ∀ n, Okx ((s_St_Make K V.st n).bind fun x => cond (x.2.2 != 0) (some (.error x.2.2)) (some (.ok ((⟨V.w, V.terms, x.1⟩ : Rd), x.2.1)))) fun r => Made1 U r.1 r.2 := fun {V} hV e1 e2 n => by
    have := make1 hi hM n V.w V.terms e2 V.st e1
    exact this
  unfold s_Rd_node_j1
  refine Ok.cond (fun _ => ?_) (fun _ => ?_)
  · refine Okx.exc (rnumber_ok hi) (fun x _ hx => ?_)
    refine Okx.exc (rnumber_ok (hx.inv hi)) (fun y _ hy => ?_)
    refine Ok.cond (fun _ => Okx.error) (fun _ => ?_)
    exact viaR (hy.inv (hx.inv hi)) (hy.st.trans hx.st) (hy.tm.trans hx.tm) _
  refine Ok.cond (fun _ => ?_) (fun _ => ?_)
  · refine Okx.exc (rnumber_ok hi) (fun x _ hx => ?_)
    refine Ok.cond (fun _ => Okx.error) (fun _ => ?_)
    exact viaR (hx.inv hi) hx.st hx.tm _
  have w : ∀ t, Ok (s_St_w U.st t) fun _ => True := fun t => let ⟨r, e⟩ := w_some hl t; ⟨r, e, trivial⟩
  have fin : ∀ n, Okx (cond (decide (0 < (U.w.length : Int))) (some (.error 3)) ((s_St_Make K U.st n).bind fun x => cond (x.2.2 != 0) (some (.error x.2.2)) (some (.ok ((⟨U.w, U.terms, x.1⟩ : Rd), x.2.1))))) fun r => Made1 U r.1 r.2 := fun n =>
    Ok.cond (fun _ => Okx.error) (fun _ => viaR hi rfl rfl n)
  refine Ok.cond (fun _ => ?_) (fun _ => ?_)
  · exact Ok.bind (w _) (fun x _ _ => fin _)
  refine Ok.cond (fun _ => ?_) (fun _ => ?_)
  · refine Ok.bind (w _) (fun x _ _ => Ok.bind (w _) (fun y _ _ => ?_))
    exact Ok.cond (fun _ => fin _) (fun _ => fin _)
  refine Ok.cond (fun _ => ?_) (fun _ => ?_)
  · exact Ok.bind (w _) (fun x _ _ => fin _)
  · exact fin _
theorem Made1.of {U V : Rd} {W : Rd} {t : Int} (h : Made1 V W t) (e1 : V.st = U.st) (e2 : V.terms = U.terms) : Made1 U W t := ⟨e1 ▸ h.st, h.tm.trans e2, h.lo, h.hi⟩
theorem Okx.mono {α : Type} {P Q : α → Prop} {x : Option (Except Int α)} (h : Okx x P) (k : ∀ a, P a → Q a) : Okx x Q := Ok.mono h fun r hr a e => k a (hr a e)
theorem node_j0 {U : Rd} {M : Nat} (hi : RInv U M) (hM : M ≤ 4194302) (x2 a b : Int) (s : ByteArray) : Okx (s_Rd_node_j0 K x2 U a b s) fun r => Made1 U r.1 r.2 := by
  unfold s_Rd_node_j0
  refine Ok.lt (fun p ep => ?_)
  have hr := parts_range x2
  have fin : ∀ {V : Rd}, RInv V M → V.st = U.st → V.terms = U.terms → ∀ c d e, Okx (s_Rd_node_j1 K x2 a b s V c d e) fun r => Made1 U r.1 r.2 := fun {V} hV e1 e2 c d e => (node_j1 hV hM x2 a b s c d e).mono fun r h => h.of e1 e2
  refine Ok.cond (fun _ => ?_) (fun _ => fin hi rfl rfl _ _ _)
  refine Okx.exc (rpart_ok hi) (fun x _ hx => ?_)
  have hx := hx.1
  have ix := hx.inv hi
  refine Ok.cond (fun _ => ?_) (fun _ => fin ix hx.st hx.tm _ _ _)
  refine Okx.exc (rpart_ok ix) (fun y _ hy => ?_)
  have hy := hy.1
  have iy := hy.inv ix
  refine Ok.cond (fun _ => ?_) (fun _ => fin iy (hy.st.trans hx.st) (hy.tm.trans hx.tm) _ _ _)
  refine Okx.exc (rpart_ok iy) (fun z _ hz => ?_)
  have hz := hz.1
  have iz := hz.inv iy
  refine Ok.cond (fun h => ?_) (fun _ => fin iz (hz.st.trans (hy.st.trans hx.st)) (hz.tm.trans (hy.tm.trans hx.tm)) _ _ _)
  exfalso
  subst ep
  have : 3 < s_parts x2 := by simpa using h
  omega
theorem rnode_ok {U : Rd} {M : Nat} (hi : RInv U M) (hM : M ≤ 4194302) : Okx (s_Rd_node K U) fun r => Made1 U r.1 r.2 := by
  unfold s_Rd_node
  refine Okx.exc (next_ok hi) (fun x _ hx => ?_)
  have hx := hx.1
  have ix := hx.inv hi
  refine Okx.exc (operation_ok _) (fun o _ _ => ?_)
  refine Ok.cond (fun _ => ?_) (fun _ => ?_)
  · refine Okx.exc (rnumber_ok ix) (fun y _ hy => ?_)
    have iy := hy.inv ix
    refine Okx.exc (next_ok iy) (fun z _ hz => ?_)
    have iz := hz.1.inv iy
    refine Ok.bind (number_ok z.2 hz.2) (fun v _ _ => ?_)
    refine Ok.cond (fun _ => Okx.error) (fun _ => ?_)
    exact (node_j0 iz hM _ _ _ _).mono fun r h => h.of (hz.1.st.trans (hy.st.trans hx.st)) (hz.1.tm.trans (hy.tm.trans hx.tm))
  refine Ok.cond (fun _ => ?_) (fun _ => ?_)
  · refine Okx.exc (next_ok ix) (fun y _ hy => ?_)
    have iy := hy.1.inv ix
    refine Okx.exc (rnumber_ok iy) (fun z _ hz => ?_)
    have iz := hz.inv iy
    exact (node_j0 iz hM _ _ _ _).mono fun r h => h.of (hz.st.trans (hy.1.st.trans hx.st)) (hz.tm.trans (hy.1.tm.trans hx.tm))
  · exact (node_j0 ix hM _ _ _ _).mono fun r h => h.of hx.st hx.tm
end Go.Proofs.YtlnionilhagenaaGreatDoor
