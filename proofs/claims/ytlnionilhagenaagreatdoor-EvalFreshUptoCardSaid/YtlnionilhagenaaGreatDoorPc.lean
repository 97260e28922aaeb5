import Derived.Test.YtlnionilhagenaaGreatDoorPb
/-! # The plain half: the order of a store's terms -/
namespace Go.Proofs.YtlnionilhagenaaGreatDoor
open Go.RowKit
set_option linter.all false
/-- Each term's parts stand before it. -/
def Closed (S : St) (l : List Int) : Prop := ∀ (i : Nat) (t : Int), l[i]? = some t → 1 ≤ t ∧ t ≤ S.all.length ∧ ∀ n, S.all[(t - 1).toNat]? = some n → ∀ j, 0 ≤ j → j < s_parts n.Op → part3 n j ∈ l.take i
theorem closed_nil (S : St) : Closed S [] := fun i t h => by simp at h
theorem closed_snoc {S : St} {l : List Int} {t : Int} (h : Closed S l) (h1 : 1 ≤ t) (h2 : t ≤ S.all.length) (hn : ∀ n, S.all[(t - 1).toNat]? = some n → ∀ j, 0 ≤ j → j < s_parts n.Op → part3 n j ∈ l) : Closed S (l ++ [t]) := by
  intro i u hu
  rw [List.getElem?_append] at hu
  split at hu
  · rename_i hi
    obtain ⟨a, b, c⟩ := h i u hu
    refine ⟨a, b, fun n hn j h0 h1 => ?_⟩
    rw [List.take_append_of_le_length (by omega)]
    exact c n hn j h0 h1
  · rename_i hi
    have : i = l.length := by
      rcases Nat.lt_or_ge i (l.length + 1) with q | q
      · omega
      · simp [show i - l.length ≠ 0 from by omega] at hu
    subst this
    simp at hu; subst hu
    refine ⟨h1, h2, fun n hn' j h0 h3 => ?_⟩
    rw [List.take_left' rfl]
    exact hn n hn' j h0 h3
/-- An item of the stack: what it is of, and the parts that were gone. -/
structure Item (S : St) (q : Pl) (n : Nd) : Prop where
  at_ : S.all[(q.t - 1).toNat]? = some n
  lo : 1 ≤ q.t
  hi : q.t ≤ S.all.length
  n0 : 0 ≤ q.next
  n1 : q.next ≤ s_parts n.Op
def Chain (S : St) (l : List Int) : Int → List Pl → Prop
  | _, [] => True
  | c, q :: rest => (∃ n, Item S q n ∧ c < q.t ∧ ∀ j, 0 ≤ j → j < q.next → part3 n j ∈ l ∨ part3 n j = c) ∧ Chain S l q.t rest
def Top (S : St) (l : List Int) : List Pl → Prop
  | [] => True
  | q :: rest => (∃ n, Item S q n ∧ ∀ j, 0 ≤ j → j < q.next → part3 n j ∈ l) ∧ Chain S l q.t rest
theorem Chain.mono {S : St} {l m : List Int} (h : ∀ x, x ∈ l → x ∈ m) : ∀ {rs : List Pl} {c : Int}, Chain S l c rs → Chain S m c rs := by
  intro rs
  induction rs with
  | nil => intro c _; trivial
  | cons q rest ih =>
    rintro c ⟨⟨n, a, b, d⟩, e⟩
    exact ⟨⟨n, a, b, fun j h0 h1 => (d j h0 h1).imp (h _) id⟩, ih e⟩
/-- All items below are of later terms. -/
theorem Chain.above {S : St} {l : List Int} : ∀ {rs : List Pl} {c : Int}, Chain S l c rs → ∀ q ∈ rs, c < q.t := by
  intro rs
  induction rs with
  | nil => intro c _ q hq; cases hq
  | cons p rest ih =>
    rintro c ⟨⟨n, a, b, d⟩, e⟩ q hq
    rcases List.mem_cons.1 hq with rfl | hq
    · exact b
    · have := ih e q hq; omega
structure OInv (S : St) (l : List Int) (rs : List Pl) (seen : List Bool) : Prop where
  len : seen.length = S.all.length + 1
  cl : Closed S l
  top : Top S l rs
  sn : ∀ t : Int, 1 ≤ t → t ≤ S.all.length → seen[t.toNat]? = some true → t ∈ l ∨ ∃ p ∈ rs, p.t = t
  cnt : l.length + rs.length + seen.count false ≤ S.all.length + 1
def mu (rs : List Pl) (seen : List Bool) : Nat := (rs.map fun p => (4 - p.next).toNat).sum + 4 * seen.count false
theorem count_set {seen : List Bool} {i : Nat} (h : seen[i]? = some false) : (seen.set i true).count false + 1 = seen.count false := by
  induction seen generalizing i with
  | nil => simp at h
  | cons b l ih =>
    cases i with
    | zero => simp at h; subst h; simp [List.count_cons]
    | succ i =>
      simp at h
      have := ih h
      simp only [List.set_cons_succ, List.count_cons]
      omega
section
variable {S : St} (hw : Wf S) (hl : S.all.length ≤ 2097152)
include hw hl
theorem l4_ok {P : List Int × Int → Prop} (i : Int) (rec_ : Int → List Int → List Bool → List Pl → Option (List Int × Int)) : ∀ (k : Nat) (l : List Int) (rs : List Pl) (seen : List Bool), OInv S l rs seen → mu rs seen < k →
    (∀ l' seen', OInv S l' [] seen' → (∀ x, x ∈ l → x ∈ l') → (∀ p ∈ rs, p.t ∈ l') → Ok (rec_ (IntKind.i64.wrap (i + 1)) l' seen' []) P) → Ok (s_St_Order_l4 S i rec_ k l rs.reverse seen) P := by
  intro k
  induction k with
  | zero => intro l rs seen _ h; exact absurd h (Nat.not_lt_zero _)
  | succ k ih =>
    intro l rs seen inv hmu hk
    rw [s_St_Order_l4.eq_2]
    cases rs with
    | nil =>
      refine Ok.cond (fun h => by simp at h) (fun _ => ?_)
      exact hk l seen inv (fun _ h => h) (fun p hp => by cases hp)
    | cons q rest =>
      obtain ⟨⟨n, it, hq⟩, ch⟩ := inv.top
      have hcnt := inv.cnt
      have hlen : ((q :: rest).reverse.length : Int) = rest.length + 1 := by simp
      have hsm : rest.length + 1 ≤ 2097153 := by simp at hcnt; omega
      rw [hlen]
      rw [i64 (n := (rest.length : Int) + 1 - 1) (by omega)]
      have e1 : ((rest.length : Int) + 1 - 1) = (rest.length : Int) := by omega
      have hget : getI (q :: rest).reverse ((rest.length : Int) + 1 - 1) = some q := by
        rw [e1, getI_eq (by omega), List.reverse_cons]; simp
      refine Ok.cond (fun _ => ?_) (fun h => absurd h (by simp))
      rw [hget]
      simp only [Option.bind_some]
      have hr := parts_range n.Op
      obtain ⟨i1, i2, i3, i4, i5⟩ := it
      rw [i64 (n := q.t - 1) (by omega), getI_eq (by omega), i1]
      simp only [Option.bind_some]
      refine Ok.lt (fun x27 e27 => ?_)
      subst e27
      have e2 : ((rest.length : Int) + 1 - 1).toNat = rest.length := by omega
      have e3 : (q :: rest).reverse.take rest.length = rest.reverse := by rw [List.reverse_cons]; exact List.take_left' (by simp)
      have e4 : ∀ p : Pl, (q :: rest).reverse.set rest.length p = (p :: rest).reverse := fun p => by
        rw [List.reverse_cons, List.reverse_cons, List.set_append]; simp
      refine Ok.cond (fun hn => ?_) (fun hn => ?_)
      · have hn : q.next = s_parts n.Op := by simpa using hn
        refine Ok.ite (by simp at hcnt; omega) ?_
        refine Ok.ite ⟨by omega, by omega⟩ ?_
        rw [e2, e3]
        refine ih (l ++ [q.t]) rest seen ⟨inv.len, closed_snoc inv.cl i2 i3 (fun m hm j h0 h1 => ?_), ?_, fun t h1 h2 h3 => ?_, ?_⟩ ?_ (fun l' seen' inv' hs hp => hk l' seen' inv' (fun x hx => hs x (by simp [hx])) fun p hp' => ?_)
        · rw [i1] at hm; cases hm
          exact hq j h0 (by omega)
        · cases rest with
          | nil => trivial
          | cons r rest' =>
            obtain ⟨⟨m, jt, jc, jp⟩, ch'⟩ := ch
            refine ⟨⟨m, jt, fun j h0 h1 => ?_⟩, ch'.mono (fun x hx => by simp [hx])⟩
            rcases jp j h0 h1 with h | h
            · simp [h]
            · simp [h]
        · rcases inv.sn t h1 h2 h3 with h | ⟨p, hp, rfl⟩
          · exact .inl (by simp [h])
          · rcases List.mem_cons.1 hp with rfl | hp
            · exact .inl (by simp)
            · exact .inr ⟨p, hp, rfl⟩
        · simp at hcnt ⊢; omega
        · unfold mu at hmu ⊢
          simp only [List.map_cons, List.sum_cons] at hmu
          omega
        · rcases List.mem_cons.1 hp' with rfl | hp'
          · exact hs _ (by simp)
          · exact hp p hp'
      · have hn : q.next < s_parts n.Op := by
          have : q.next ≠ s_parts n.Op := by simpa using hn
          omega
        have hpt : getI [n.A, n.B, n.C] q.next = some (part3 n q.next) := by
          rw [getI_eq i4]
          rcases (show q.next = 0 ∨ q.next = 1 ∨ q.next = 2 by omega) with h | h | h <;> rw [h] <;> rfl
        rw [hpt]
        simp only [Option.bind_some]
        obtain ⟨p1, p2⟩ := (hw.pr _ _ i1).ok q.next i4 hn
        have p2' : part3 n q.next < q.t := by omega
        generalize hkk : part3 n q.next = kk at *
        have hklt : kk.toNat < seen.length := by rw [inv.len]; omega
        rw [getI_eq (by omega), List.getElem?_eq_getElem hklt]
        simp only [Option.bind_some]
        rw [e2, e4, i64 (n := q.next + 1) (by omega)]
        have it' : Item S ⟨q.t, q.next + 1⟩ n := ⟨i1, i2, i3, by show 0 ≤ q.next + 1; omega, by show q.next + 1 ≤ _; omega⟩
        refine Ok.cond (fun hs => ?_) (fun hs => ?_)
        · have hs : seen[kk.toNat]? = some false := by rw [List.getElem?_eq_getElem hklt]; simpa using hs
          have hc := count_set hs
          refine Ok.ite (by simp at hcnt ⊢; omega) ?_
          have e5 : (Pl.mk q.t (q.next + 1) :: rest).reverse ++ [Pl.mk kk 0] = (Pl.mk kk 0 :: Pl.mk q.t (q.next + 1) :: rest).reverse := by simp
          rw [e5]
          have hkn : ∃ m, S.all[(kk - 1).toNat]? = some m := ⟨S.all[(kk - 1).toNat], by simp⟩
          obtain ⟨m, hm⟩ := hkn
          refine ih l (Pl.mk kk 0 :: Pl.mk q.t (q.next + 1) :: rest) (seen.set kk.toNat true) ⟨by simp [inv.len], inv.cl, ⟨⟨m, ⟨hm, p1, by show kk ≤ _; omega, Int.le_refl _, (parts_range _).1⟩, fun j h0 h1 => by
              have h1' : j < 0 := h1
              omega⟩, ⟨n, it', p2', fun j h0 h1 => ?_⟩, ch⟩, fun t h1 h2 h3 => ?_, ?_⟩ ?_ (fun l' seen' inv' hs' hp => hk l' seen' inv' hs' fun p hp' => ?_)
          · have h1 : j < q.next + 1 := h1
            rcases (show j < q.next ∨ j = q.next by omega) with h | h
            · exact .inl (hq j h0 h)
            · subst h; exact .inr hkk
          · rw [List.getElem?_set] at h3
            split at h3
            · rename_i he
              exact .inr ⟨Pl.mk kk 0, by simp, by show kk = t; omega⟩
            · rcases inv.sn t h1 h2 h3 with h | ⟨p, hp, rfl⟩
              · exact .inl h
              · rcases List.mem_cons.1 hp with rfl | hp
                · exact .inr ⟨Pl.mk p.t (p.next + 1), by simp, rfl⟩
                · exact .inr ⟨p, by simp [hp], rfl⟩
          · simp at hcnt ⊢; omega
          · unfold mu at hmu ⊢
            simp only [List.map_cons, List.sum_cons] at hmu ⊢
            omega
          · rcases List.mem_cons.1 hp' with rfl | hp'
            · exact hp (Pl.mk p.t (p.next + 1)) (by simp)
            · exact hp p (by simp [hp'])
        · have hs : seen[kk.toNat]? = some true := by rw [List.getElem?_eq_getElem hklt]; simpa using hs
          have hin : kk ∈ l := by
            rcases inv.sn kk p1 (by omega) hs with h | ⟨p, hp, hpe⟩
            · exact h
            · exfalso
              rcases List.mem_cons.1 hp with rfl | hp
              · omega
              · have := ch.above p hp; omega
          refine ih l (Pl.mk q.t (q.next + 1) :: rest) seen ⟨inv.len, inv.cl, ⟨⟨n, it', fun j h0 h1 => ?_⟩, ch⟩, fun t h1 h2 h3 => ?_, by simpa using hcnt⟩ ?_ (fun l' seen' inv' hs' hp => hk l' seen' inv' hs' fun p hp' => ?_)
          · have h1 : j < q.next + 1 := h1
            rcases (show j < q.next ∨ j = q.next by omega) with h | h
            · exact hq j h0 h
            · subst h; rw [hkk]; exact hin
          · rcases inv.sn t h1 h2 h3 with h | ⟨p, hp, rfl⟩
            · exact .inl h
            · rcases List.mem_cons.1 hp with rfl | hp
              · exact .inr ⟨Pl.mk p.t (p.next + 1), by simp, rfl⟩
              · exact .inr ⟨p, by simp [hp], rfl⟩
          · unfold mu at hmu ⊢
            simp only [List.map_cons, List.sum_cons] at hmu ⊢
            omega
          · rcases List.mem_cons.1 hp' with rfl | hp'
            · exact hp (Pl.mk p.t (p.next + 1)) (by simp)
            · exact hp p (by simp [hp'])
/-- What Order tells: a list in which parts come first, and in which all roots are. -/
structure Ordered (S : St) (roots l : List Int) : Prop where
  cl : Closed S l
  len : l.length ≤ S.all.length + 1
  all : ∀ t, t ∈ roots → t ∈ l
theorem l3_ok {roots : List Int} (hr : ∀ t, t ∈ roots → 1 ≤ t ∧ t ≤ S.all.length) (hrl : roots.length ≤ 2097152) : ∀ (k : Nat) (i : Nat) (l : List Int) (seen : List Bool), OInv S l [] seen → roots.length < i + k → i ≤ roots.length → (∀ j t, j < i → roots[j]? = some t → t ∈ l) →
    Ok (s_St_Order_l3 S roots K k i l seen []) fun r => r.2 = 0 ∧ Ordered S roots r.1 := by
  intro k
  induction k with
  | zero => intro i l seen inv h h2 _; omega
  | succ k ih =>
    intro i l seen inv hk hi hd
    rw [s_St_Order_l3.eq_2]
    refine Ok.cond (fun h => ?_) (fun h => ?_)
    · have hlt : i < roots.length := by have : (i : Int) < roots.length := by simpa using h
                                        omega
      have hget : roots[i]? = some roots[i] := by simp [hlt]
      obtain ⟨r1, r2⟩ := hr roots[i] (List.getElem_mem hlt)
      generalize roots[i] = t at hget r1 r2
      rw [getI_eq (by omega), Int.toNat_natCast, hget]
      simp only [Option.bind_some]
      have htl : t.toNat < seen.length := by rw [inv.len]; omega
      rw [getI_eq (by omega), List.getElem?_eq_getElem htl]
      simp only [Option.bind_some]
      have step : ∀ l' seen', OInv S l' [] seen' → (∀ x, x ∈ l → x ∈ l') → t ∈ l' → Ok (s_St_Order_l3 S roots K k (IntKind.i64.wrap ((i : Int) + 1)) l' seen' []) fun r => r.2 = 0 ∧ Ordered S roots r.1 := by
        intro l' seen' inv' hs ht
        rw [i64 (by omega)]
        have := ih (i + 1) l' seen' inv' (by omega) (by omega) (fun j u hj hu => by
          rcases Nat.lt_or_ge j i with q | q
          · exact hs u (hd j u q hu)
          · have : j = i := by omega
            subst this; rw [hget] at hu; cases hu; exact ht)
        simpa using this
      refine Ok.cond (fun hs => ?_) (fun hs => ?_)
      · refine step l seen inv (fun _ h => h) ?_
        rcases inv.sn t r1 r2 (by rw [List.getElem?_eq_getElem htl]; simpa using hs) with h | ⟨p, hp, _⟩
        · exact h
        · cases hp
      · have hs : seen[t.toNat]? = some false := by rw [List.getElem?_eq_getElem htl]; simpa using hs
        have hc := count_set hs
        have hcnt := inv.cnt
        refine Ok.ite (by simp) ?_
        have hm : ∃ m, S.all[(t - 1).toNat]? = some m := ⟨S.all[(t - 1).toNat], by simp⟩
        obtain ⟨m, hm⟩ := hm
        have hsc : seen.count false ≤ S.all.length + 1 := by have := inv.len; have := List.count_le_length (a := false) (l := seen); omega
        refine l4_ok hw hl (i : Int) _ K l [Pl.mk t 0] (seen.set t.toNat true) ⟨by simp [inv.len], inv.cl, ⟨⟨m, ⟨hm, r1, r2, Int.le_refl _, (parts_range _).1⟩, fun j h0 h1 => by
            have h1' : j < 0 := h1
            omega⟩, trivial⟩, fun u h1 h2 h3 => ?_, by simp at hcnt ⊢; omega⟩ ?_ (fun l' seen' inv' hs' hp => step l' seen' inv' hs' (hp (Pl.mk t 0) (by simp)))
        · rw [List.getElem?_set] at h3
          split at h3
          · exact .inr ⟨Pl.mk t 0, by simp, by show t = u; omega⟩
          · rcases inv.sn u h1 h2 h3 with h | ⟨p, hp, _⟩
            · exact .inl h
            · cases hp
        · unfold mu
          show _ < 16777216
          simp only [List.map_cons, List.map_nil, List.sum_cons, List.sum_nil]
          omega
    · have hge : roots.length ≤ i := by
        have : ¬ (i : Int) < roots.length := by simpa using h
        omega
      refine Ok.some ⟨rfl, inv.cl, by have := inv.cnt; simp at this; show l.length ≤ _; omega, fun t ht => ?_⟩
      obtain ⟨j, hj, hjt⟩ := List.getElem_of_mem ht
      exact hd j t (by omega) (by simp [← hjt, hj])
theorem l0_ok {roots : List Int} (hr : ∀ t, t ∈ roots → 1 ≤ t ∧ t ≤ S.all.length) (hrl : roots.length ≤ 2097152) : ∀ (k : Nat) (i : Nat), roots.length < i + k → i ≤ roots.length → Ok (s_St_Order_l0 S roots K k i) fun r => r.2 = 0 ∧ Ordered S roots r.1 := by
  intro k
  induction k with
  | zero => intro i h h2; omega
  | succ k ih =>
    intro i hk hi
    rw [s_St_Order_l0.eq_2]
    refine Ok.cond (fun h => ?_) (fun h => ?_)
    · have hlt : i < roots.length := by have : (i : Int) < roots.length := by simpa using h
                                        omega
      have hget : roots[i]? = some roots[i] := by simp [hlt]
      obtain ⟨r1, r2⟩ := hr roots[i] (List.getElem_mem hlt)
      rw [getI_eq (by omega), Int.toNat_natCast, hget]
      simp only [Option.bind_some]
      refine Ok.lt (fun x5 e5 => ?_)
      rw [is_iff.2 ⟨r1, r2⟩] at e5
      subst e5
      refine Ok.cond (fun h => by cases h) (fun _ => ?_)
      rw [i64 (by omega)]
      have := ih (i + 1) (by omega) (by omega)
      simpa using this
    · have e : ((S.all.length : Int) + 1).toNat = S.all.length + 1 := by omega
      rw [i64 (n := (S.all.length : Int) + 1) (by omega)]
      refine Ok.ite ⟨by omega, by omega, by omega⟩ ?_
      rw [e]
      have := l3_ok hw hl hr hrl K 0 [] (List.replicate (S.all.length + 1) false) ⟨by simp, closed_nil S, trivial, fun t h1 h2 h3 => by
          rw [List.getElem?_replicate] at h3
          split at h3 <;> simp at h3, by simp⟩ (show _ < 0 + 16777216 by omega) (by omega) (fun j t h _ => absurd h (Nat.not_lt_zero _))
      simpa using this
theorem order_ok {roots : List Int} (hr : ∀ t, t ∈ roots → 1 ≤ t ∧ t ≤ S.all.length) (hrl : roots.length ≤ 2097152) : Ok (s_St_Order K S roots) fun r => r.2 = 0 ∧ Ordered S roots r.1 := by
  unfold s_St_Order
  have := l0_ok hw hl hr hrl K 0 (show _ < 0 + 16777216 by omega) (Nat.zero_le _)
  simpa using this
end
end Go.Proofs.YtlnionilhagenaaGreatDoor
