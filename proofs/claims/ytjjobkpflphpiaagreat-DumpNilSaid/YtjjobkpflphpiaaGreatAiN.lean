/- What a call sees of the heap, and what comes back. -/
import Derived.Test.YtjjobkpflphpiaaGreatAiM
set_option linter.unusedVariables false
set_option linter.unusedSimpArgs false
namespace Go.Ai

theorem memN_iff {n : Nat} : ∀ {l : List Nat}, memN n l = true ↔ n ∈ l
  | [] => by simp [memN]
  | a :: r => by
    simp only [memN]
    cases hb : Nat.beq a n
    · have hne : a ≠ n := fun e => by subst e; rw [Nat.beq_refl] at hb; cases hb
      simp only [cond_false, memN_iff (l := r), List.mem_cons]
      exact ⟨.inr, fun h => h.resolve_left (Ne.symm hne)⟩
    · have := Nat.eq_of_beq_eq_true hb
      simp [this]

theorem idx_get {id : Nat} : ∀ {l : List Nat} {k : Nat}, id ∈ l → ∃ j, idx id l k = k + j ∧ l[j]? = some id
  | [], _, h => by cases h
  | a :: r, k, h => by
    simp only [idx]
    cases hb : Nat.beq a id
    · have hne : a ≠ id := fun e => by subst e; rw [Nat.beq_refl] at hb; cases hb
      have h' : id ∈ r := by
        cases h with
        | head => exact absurd rfl hne
        | tail _ h => exact h
      obtain ⟨j, h1, h2⟩ := idx_get (k := k + 1) h'
      exact ⟨j + 1, by rw [cond_false, h1]; omega, by simpa using h2⟩
    · have := Nat.eq_of_beq_eq_true hb
      subst this
      exact ⟨0, rfl, rfl⟩

theorem idx_of {l : List Nat} {id : Nat} (h : id ∈ l) : l[idx id l 0]? = some id := by
  obtain ⟨j, h1, h2⟩ := idx_get (k := 0) h
  rw [h1, Nat.zero_add]; exact h2

theorem idx_lt {l : List Nat} {id : Nat} (h : id ∈ l) : idx id l 0 < l.length := (List.getElem?_eq_some_iff.1 (idx_of h)).1

theorem idx_at' {l : List Nat} : ∀ (k0 : Nat), l.Nodup → ∀ {k id : Nat}, l[k]? = some id → idx id l k0 = k0 + k := by
  induction l with
  | nil => intro _ _ k id h; simp at h
  | cons a r ih =>
    intro k0 hn k id h
    rw [List.nodup_cons] at hn
    cases k with
    | zero => simp at h; subst h; simp [idx]
    | succ k =>
      simp at h
      have hm : id ∈ r := List.mem_of_getElem? h
      have hne : Nat.beq a id = false := by
        cases hb : Nat.beq a id
        · rfl
        · have := Nat.eq_of_beq_eq_true hb; subst this; exact absurd hm hn.1
      simp only [idx, hne, cond_false]
      rw [ih (k0 + 1) hn.2 h]; omega

theorem idx_at {l : List Nat} (hn : l.Nodup) {k id : Nat} (h : l[k]? = some id) : idx id l 0 = k := by
  rw [idx_at' 0 hn h, Nat.zero_add]

/-- What gather gives. -/
theorem gather_ok {hp : List (Nat × AO)} : ∀ {f : Nat} {todo ord out : List Nat}, gather hp f todo ord = some out → ord.Nodup →
    (∀ id ∈ ord, ∀ r ∈ refsO (lookO hp id), r ∈ ord ∨ r ∈ todo) →
    out.Nodup ∧ (∃ t, out = ord ++ t) ∧ (∀ id ∈ todo, id ∈ out) ∧ (∀ id ∈ out, ∀ r ∈ refsO (lookO hp id), r ∈ out)
  | _, [], ord, out, h, hn, hc => by
    have : out = ord := by
      cases ‹Nat› <;> (simp only [gather] at h; cases h; rfl)
    subst this
    exact ⟨hn, ⟨[], by simp⟩, fun id h => (by cases h), fun id hi r hr => (hc id hi r hr).resolve_right (by simp)⟩
  | 0, _ :: _, _, _, h, _, _ => by cases h
  | f + 1, id :: r, ord, out, h, hn, hc => by
    simp only [gather] at h
    cases hm : memN id ord
    · rw [hm] at h
      have hnm : id ∉ ord := fun hh => by rw [memN_iff.2 hh] at hm; cases hm
      obtain ⟨h1, ⟨t, ht⟩, h3, h4⟩ := gather_ok (f := f) h (by
        rw [List.nodup_append]
        exact ⟨hn, by simp, fun a ha b hb => by simp at hb; subst hb; exact fun e => hnm (e ▸ ha)⟩) (by
        intro i hi q hq
        simp only [List.mem_append, List.mem_singleton] at hi ⊢
        rcases hi with hi | hi
        · rcases hc i hi q hq with h | h
          · exact .inl (.inl h)
          · cases h with
            | head => exact .inl (.inr rfl)
            | tail _ h => exact .inr (.inl h)
        · subst hi; exact .inr (.inr hq))
      refine ⟨h1, ⟨id :: t, by rw [ht]; simp⟩, fun i hi => ?_, h4⟩
      cases hi with
      | head => rw [ht]; simp
      | tail _ hi => exact h3 i (List.mem_append.2 (.inl hi))
    · rw [hm] at h
      have hm' := memN_iff.1 hm
      obtain ⟨h1, ⟨t, ht⟩, h3, h4⟩ := gather_ok (f := f) h hn (by
        intro i hi q hq
        rcases hc i hi q hq with h | h
        · exact .inl h
        · cases h with
          | head => exact .inl hm'
          | tail _ h => exact .inr h)
      refine ⟨h1, ⟨t, ht⟩, fun i hi => ?_, h4⟩
      cases hi with
      | head => rw [ht]; simp [hm']
      | tail _ hi => exact h3 i hi

theorem gather_range {hp : List (Nat × AO)} : ∀ {n f : Nat} {m : Nat} {todo out : List Nat}, gather hp f (List.range' m n ++ todo) (List.range m) = some out → ∃ t, out = List.range (m + n) ++ t
  | 0, f, m, todo, out, h => by
    have hn : (List.range m).Nodup := List.nodup_range
    have aux : ∀ {f : Nat} {todo ord out : List Nat}, gather hp f todo ord = some out → ∃ t, out = ord ++ t := by
      intro f
      induction f with
      | zero =>
        intro todo ord out h
        cases todo with
        | nil => simp only [gather] at h; cases h; exact ⟨[], by simp⟩
        | cons a r => simp only [gather] at h; cases h
      | succ f ih =>
        intro todo ord out h
        cases todo with
        | nil => simp only [gather] at h; cases h; exact ⟨[], by simp⟩
        | cons a r =>
          simp only [gather] at h
          cases hm : memN a ord <;> rw [hm] at h
          · obtain ⟨t, ht⟩ := ih h
            exact ⟨a :: t, by rw [ht]; simp⟩
          · exact ih h
    exact aux h
  | n + 1, 0, m, todo, out, h => by simp [List.range'_succ, gather] at h
  | n + 1, f + 1, m, todo, out, h => by
    simp only [List.range'_succ, List.cons_append, gather] at h
    have hm : memN m (List.range m) = false := by
      cases hb : memN m (List.range m)
      · rfl
      · have := memN_iff.1 hb; simp at this
    rw [hm, cond_false, ← List.range_succ, List.append_assoc] at h
    obtain ⟨t, ht⟩ := gather_range h
    exact ⟨t, by rw [ht]; congr 2; omega⟩

theorem gather_roots {hp : List (Nat × AO)} {f n : Nat} {todo out : List Nat} (h : gather hp f (List.range n ++ todo) [] = some out) : ∃ t, out = List.range n ++ t := by
  have := gather_range (hp := hp) (n := n) (f := f) (m := 0) (todo := todo) (out := out) (by simpa [List.range_eq_range'] using h)
  simpa using this

section
variable {P : Program} {w w' : World} {F F' : Nat → Prop} {μ μ' : Nat → Option Pl} {m : Nat → Nat}

/-! Renaming. -/
mutual
theorem AR_ren (hm : ∀ id p, μ id = some p → μ' (m id) = some p) : ∀ (x : AV) (v : Value), AR w F μ x v → AR w F μ' (ren m x) v
  | .und, _, _ => trivial
  | .bool _, _, h => h
  | .int _ _, _, h => h
  | .str _, _, h => h
  | .nilp, _, h => h
  | .nils, _, h => h
  | .nilf, _, h => h
  | .sl t xs, v, h => h
  | .sn t xs, v, h => h
  | .cp cs, v, h => by
    obtain ⟨b, off, vs, hv, hb, hcs, ho, hc⟩ := h
    exact ⟨b, off, vs, hv, hb, ARs_ren hm cs vs hcs, ho, hc⟩
  | .agg cs, v, h => by
    obtain ⟨vs, hv, hcs, ho⟩ := h
    exact ⟨vs, hv, ARs_ren hm cs vs hcs, ho⟩
  | .tup cs, v, h => by
    obtain ⟨vs, hv, hcs⟩ := h
    exact ⟨vs, hv, ARs_ren hm cs vs hcs⟩
  | .func f a c, v, h => by
    obtain ⟨as, cs, hv, h1, h2⟩ := h
    exact ⟨as, cs, hv, ARs_ren hm a as h1, ARs_ren hm c cs h2⟩
  | .ptr id off, v, h => by
    obtain ⟨p, b, h1, h2⟩ := h
    exact ⟨p, b, hm _ _ h1, h2⟩
  | .ept id i off, v, h => by
    obtain ⟨p, b, h1, h2⟩ := h
    exact ⟨p, b, hm _ _ h1, h2⟩
  | .own id, v, h => by
    obtain ⟨p, h1, h2⟩ := h
    exact ⟨p, hm _ _ h1, h2⟩
theorem ARs_ren (hm : ∀ id p, μ id = some p → μ' (m id) = some p) : ∀ (xs : List AV) (vs : List Value), ARs w F μ xs vs → ARs w F μ' (renL m xs) vs
  | [], _, h => h
  | x :: r, vs, h => by
    obtain ⟨v, vr, rfl, h1, h2⟩ := h
    exact ⟨v, vr, rfl, AR_ren hm x v h1, ARs_ren hm r vr h2⟩
end

/-! Only what is referred to counts. -/
mutual
theorem AR_refs (hm : ∀ id p, μ id = some p → μ' id = some p ∨ ∃ q, μ' id = some q) : ∀ (x : AV) (v : Value), AR w F μ x v → ∀ id ∈ refs x, ∃ p, μ id = some p
  | .und, _, _, id, hi => by simp [refs] at hi
  | .bool _, _, h, id, hi => by simp [refs] at hi
  | .int _ _, _, h, id, hi => by simp [refs] at hi
  | .str _, _, h, id, hi => by simp [refs] at hi
  | .nilp, _, h, id, hi => by simp [refs] at hi
  | .nils, _, h, id, hi => by simp [refs] at hi
  | .nilf, _, h, id, hi => by simp [refs] at hi
  | .sl t xs, v, h, id, hi => by simp [refs] at hi
  | .sn t xs, v, h, id, hi => by simp [refs] at hi
  | .cp cs, v, h, id, hi => by
    obtain ⟨b, off, vs, hv, hb, hcs, ho, hc⟩ := h
    exact ARs_refs hm cs vs hcs id (by simpa [refs] using hi)
  | .agg cs, v, h, id, hi => by
    obtain ⟨vs, hv, hcs, ho⟩ := h
    exact ARs_refs hm cs vs hcs id (by simpa [refs] using hi)
  | .tup cs, v, h, id, hi => by
    obtain ⟨vs, hv, hcs⟩ := h
    exact ARs_refs hm cs vs hcs id (by simpa [refs] using hi)
  | .func f a c, v, h, id, hi => by
    obtain ⟨as, cs, hv, h1, h2⟩ := h
    simp only [refs, List.mem_append] at hi
    rcases hi with hi | hi
    · exact ARs_refs hm a as h1 id hi
    · exact ARs_refs hm c cs h2 id hi
  | .ptr id off, v, h, id', hi => by
    obtain ⟨p, b, h1, h2⟩ := h
    simp [refs] at hi; subst hi
    exact ⟨p, h1⟩
  | .ept id i off, v, h, id', hi => by
    obtain ⟨p, b, h1, h2⟩ := h
    simp [refs] at hi; subst hi
    exact ⟨p, h1⟩
  | .own id, v, h, id', hi => by
    obtain ⟨p, h1, h2⟩ := h
    simp [refs] at hi; subst hi
    exact ⟨p, h1⟩
theorem ARs_refs (hm : ∀ id p, μ id = some p → μ' id = some p ∨ ∃ q, μ' id = some q) : ∀ (xs : List AV) (vs : List Value), ARs w F μ xs vs → ∀ id ∈ refsL xs, ∃ p, μ id = some p
  | [], _, h, id, hi => by simp [refsL] at hi
  | x :: r, vs, h, id, hi => by
    obtain ⟨v, vr, rfl, h1, h2⟩ := h
    simp only [refsL, List.mem_append] at hi
    rcases hi with hi | hi
    · exact AR_refs hm x v h1 id hi
    · exact ARs_refs hm r vr h2 id hi
end

/-! Renaming of what is referred to alone. -/
mutual
theorem AR_ren' : ∀ (x : AV) (v : Value), (∀ id ∈ refs x, ∀ p, μ id = some p → μ' (m id) = some p) → AR w F μ x v → AR w F μ' (ren m x) v
  | .und, _, _, _ => trivial
  | .bool _, _, _, h => h
  | .int _ _, _, _, h => h
  | .str _, _, _, h => h
  | .nilp, _, _, h => h
  | .nils, _, _, h => h
  | .nilf, _, _, h => h
  | .sl t xs, v, _, h => h
  | .sn t xs, v, _, h => h
  | .cp cs, v, hm, h => by
    obtain ⟨b, off, vs, hv, hb, hcs, ho, hc⟩ := h
    exact ⟨b, off, vs, hv, hb, ARs_ren' cs vs (fun id hi => hm id (by simpa [refs] using hi)) hcs, ho, hc⟩
  | .agg cs, v, hm, h => by
    obtain ⟨vs, hv, hcs, ho⟩ := h
    exact ⟨vs, hv, ARs_ren' cs vs (fun id hi => hm id (by simpa [refs] using hi)) hcs, ho⟩
  | .tup cs, v, hm, h => by
    obtain ⟨vs, hv, hcs⟩ := h
    exact ⟨vs, hv, ARs_ren' cs vs (fun id hi => hm id (by simpa [refs] using hi)) hcs⟩
  | .func f a c, v, hm, h => by
    obtain ⟨as, cs, hv, h1, h2⟩ := h
    exact ⟨as, cs, hv, ARs_ren' a as (fun id hi => hm id (by simp [refs, hi])) h1, ARs_ren' c cs (fun id hi => hm id (by simp [refs, hi])) h2⟩
  | .ptr id off, v, hm, h => by
    obtain ⟨p, b, h1, h2⟩ := h
    exact ⟨p, b, hm _ (by simp [refs]) _ h1, h2⟩
  | .ept id i off, v, hm, h => by
    obtain ⟨p, b, h1, h2⟩ := h
    exact ⟨p, b, hm _ (by simp [refs]) _ h1, h2⟩
  | .own id, v, hm, h => by
    obtain ⟨p, h1, h2⟩ := h
    exact ⟨p, hm _ (by simp [refs]) _ h1, h2⟩
theorem ARs_ren' : ∀ (xs : List AV) (vs : List Value), (∀ id ∈ refsL xs, ∀ p, μ id = some p → μ' (m id) = some p) → ARs w F μ xs vs → ARs w F μ' (renL m xs) vs
  | [], _, _, h => h
  | x :: r, vs, hm, h => by
    obtain ⟨v, vr, rfl, h1, h2⟩ := h
    exact ⟨v, vr, rfl, AR_ren' x v (fun id hi => hm id (by simp [refsL, hi])) h1, ARs_ren' r vr (fun id hi => hm id (by simp [refsL, hi])) h2⟩
end

theorem ObjR_ren {id id' : Nat} {o : AO} (hm : ∀ i ∈ refsO o, ∀ p, μ i = some p → μ' (m i) = some p) (hid : ∀ p, μ id = some p → μ' id' = some p) (h : ObjR w F μ id o) : ObjR w F μ' id' (renO m o) := by
  cases o with
  | gone => trivial
  | box cs =>
    obtain ⟨p, hp, b, c, e, lo, hi, h1, h2, h3, h4, h5⟩ := h
    exact ⟨p, hid p hp, b, c, e, lo, hi, h1, h2, h3, ARs_ren' cs _ (fun i hi => hm i (by simpa [refsO] using hi)) h4, h5⟩
  | fbox cs =>
    obtain ⟨p, hp, ⟨b, c, e, lo, hi, h1, h2, h3, h4, h5⟩, h6⟩ := h
    exact ⟨p, hid p hp, ⟨b, c, e, lo, hi, h1, h2, h3, ARs_ren' cs _ (fun i hi => hm i (by simpa [refsO] using hi)) h4, h5⟩, h6⟩
  | row t xs => obtain ⟨p, hp, h⟩ := h; exact ⟨p, hid p hp, h⟩
  | frow t xs => obtain ⟨p, hp, h⟩ := h; exact ⟨p, hid p hp, h⟩

theorem renO_mine (o : AO) : (renO m o).mine = o.mine := by cases o <;> rfl

theorem ObjR_refs {id : Nat} {o : AO} (h : ObjR w F μ id o) : ∀ i ∈ refsO o, ∃ p, μ i = some p := by
  intro i hi
  cases o with
  | gone => simp [refsO] at hi
  | box cs =>
    obtain ⟨p, hp, b, c, e, lo, hi', h1, h2, h3, h4, h5⟩ := h
    exact ARs_refs (μ' := μ) (fun _ _ h => .inl h) cs _ h4 i (by simpa [refsO] using hi)
  | fbox cs =>
    obtain ⟨p, hp, ⟨b, c, e, lo, hi', h1, h2, h3, h4, h5⟩, h6⟩ := h
    exact ARs_refs (μ' := μ) (fun _ _ h => .inl h) cs _ h4 i (by simpa [refsO] using hi)
  | row t xs => simp [refsO] at hi
  | frow t xs => simp [refsO] at hi

theorem lookO_sub {hp : List (Nat × AO)} : ∀ {ord : List Nat} {k j : Nat}, lookO (subHp hp m ord k) (k + j) = match ord[j]? with
    | some id => renO m (lookO hp id)
    | none => .gone
  | [], k, j => by simp [subHp, lookO]
  | a :: r, k, 0 => by simp [subHp, lookO]
  | a :: r, k, j + 1 => by
    simp only [subHp]
    rw [lookO_other _ _ (by omega)]
    have := lookO_sub (hp := hp) (ord := r) (k := k + 1) (j := j)
    rw [show k + 1 + j = k + (j + 1) by omega] at this
    rw [this]; simp

theorem lookO_sub' {hp : List (Nat × AO)} {ord : List Nat} {j : Nat} : lookO (subHp hp m ord 0) j = match ord[j]? with
    | some id => renO m (lookO hp id)
    | none => .gone := by
  have := lookO_sub (hp := hp) (m := m) (ord := ord) (k := 0) (j := j)
  simpa using this

theorem subHp_len {hp : List (Nat × AO)} : ∀ {ord : List Nat} {k : Nat}, (subHp hp m ord k).length = ord.length
  | [], _ => rfl
  | a :: r, k => by simp [subHp, subHp_len]

/-- The places of a part. -/
def subμ (μ : Nat → Option Pl) (ord : List Nat) : Nat → Option Pl := fun k => (ord[k]?).bind μ

theorem sub_m {ord : List Nat} {id : Nat} {p : Pl} (h : id ∈ ord) (hp : μ id = some p) : subμ μ ord (idx id ord 0) = some p := by
  simp [subμ, idx_of h, hp]

theorem sub_owns {hp : List (Nat × AO)} {ord : List Nat} {k b : Nat} (h : Owns (subμ μ ord) (subHp hp m ord 0) k b) : ∃ id, ord[k]? = some id ∧ Owns μ hp id b := by
  obtain ⟨h1, p, h2, h3⟩ := h
  rw [lookO_sub'] at h1
  simp only [subμ] at h2
  cases ho : ord[k]? with
  | none => rw [ho] at h1; cases h1
  | some id =>
    rw [ho] at h1 h2
    rw [renO_mine] at h1
    exact ⟨id, rfl, h1, p, h2, h3⟩

/-- A closed part of a heap is a heap. -/
theorem sub_rl {hp : List (Nat × AO)} {nx : Nat} {ord : List Nat} (h : Rl w F μ hp nx) (hn : ord.Nodup) (hc : ∀ id ∈ ord, ∀ r ∈ refsO (lookO hp id), r ∈ ord) :
    Rl w F (subμ μ ord) (subHp hp (fun id => idx id ord 0) ord 0) ord.length where
  obj k := by
    rw [lookO_sub']
    cases ho : ord[k]? with
    | none => trivial
    | some id =>
      have hid := List.mem_of_getElem? ho
      exact ObjR_ren (fun i hi p hp => sub_m (hc id hid i hi) hp) (fun p hp => by simp [subμ, ho, hp]) (h.obj id)
  one k k' b h1 h2 := by
    obtain ⟨id, a1, a2⟩ := sub_owns h1
    obtain ⟨id', b1, b2⟩ := sub_owns h2
    have := h.one _ _ _ a2 b2
    subst this
    rw [← idx_at hn a1, ← idx_at hn b1]
  dis k b h1 := by
    obtain ⟨id, a1, a2⟩ := sub_owns h1
    exact h.dis _ _ a2
  fsz := h.fsz
  fresh k hk := by rw [lookO_sub', List.getElem?_eq_none hk]
  unset k hk := by simp [subμ, List.getElem?_eq_none hk]
end
end Go.Ai
