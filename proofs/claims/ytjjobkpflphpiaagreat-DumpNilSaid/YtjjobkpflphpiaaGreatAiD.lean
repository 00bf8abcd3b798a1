/- How memory turns. -/
import Derived.Test.YtjjobkpflphpiaaGreatAiC
set_option linter.unusedVariables false
set_option linter.unusedSimpArgs false
namespace Go.Ai

def upd (μ : Nat → Option Pl) (id : Nat) (p : Pl) : Nat → Option Pl := fun i => if i = id then some p else μ i

theorem upd_same {μ : Nat → Option Pl} {id : Nat} {p : Pl} : upd μ id p id = some p := by simp [upd]
theorem upd_other {μ : Nat → Option Pl} {id i : Nat} {p : Pl} (h : i ≠ id) : upd μ id p i = μ i := by simp [upd, h]
theorem upd_mono {μ : Nat → Option Pl} {id : Nat} {p : Pl} (h : μ id = none ∨ μ id = some p) : ∀ i q, μ i = some q → upd μ id p i = some q := by
  intro i q hi
  by_cases he : i = id
  · subst he
    rcases h with h | h
    · rw [h] at hi; cases hi
    · rw [upd_same, ← hi, h]
  · rw [upd_other he, hi]

theorem lookO_same (hp : List (Nat × AO)) (id : Nat) (o : AO) : lookO ((id, o) :: hp) id = o := by simp [lookO]
theorem lookO_other (hp : List (Nat × AO)) {id i : Nat} (o : AO) (h : i ≠ id) : lookO ((id, o) :: hp) i = lookO hp i := by
  have : Nat.beq id i = false := by
    cases hb : Nat.beq id i
    · rfl
    · exact absurd (Nat.eq_of_beq_eq_true hb).symm h
  simp [lookO, this]

theorem lookV_same (tm : List (Nat × AV)) (t : Nat) (v : AV) : lookV ((t, v) :: tm) t = v := by simp [lookV]
theorem lookV_other (tm : List (Nat × AV)) {t i : Nat} (v : AV) (h : i ≠ t) : lookV ((t, v) :: tm) i = lookV tm i := by
  have : Nat.beq t i = false := by
    cases hb : Nat.beq t i
    · rfl
    · exact absurd (Nat.eq_of_beq_eq_true hb).symm h
  simp [lookV, this]

section
variable {w w' : World} {F F' : Nat → Prop} {μ μ' : Nat → Option Pl} {hp : List (Nat × AO)} {nx nx' : Nat} {B : Base}

theorem RowR_mono {p : Pl} {t : Ty} {xs : List t.D} (hF : ∀ b, F b → F' b) (hw : Stays F w w') (hb : ∀ b, p.blk = some b → w'.heap[b]? = w.heap[b]?)
    (h : RowR w F p t xs) : RowR w' F' p t xs := by
  obtain ⟨hs, h⟩ := h
  refine ⟨hs, ?_⟩
  rcases h with h | ⟨b, c, e, lo, hi, h1, h2, h3, h4, h5, h6, h7, h8⟩
  · exact .inl h
  · refine .inr ⟨b, c, e, lo, hi, h1, h2, h3, h4, by rw [hb b h1]; exact h5, h6, h7, fun i x hi => ?_⟩
    obtain ⟨ys, hr, hl, hc⟩ := h8 i x hi
    exact ⟨ys, Rp_mono hF hw hr, hl, hc⟩

theorem BoxR_mono {p : Pl} {cs : List AV} (hF : ∀ b, F b → F' b) (hw : Stays F w w') (hμ : ∀ id p, μ id = some p → μ' id = some p) (hb : ∀ b, p.blk = some b → w'.heap[b]? = w.heap[b]?)
    (h : BoxR w F μ p cs) : BoxR w' F' μ' p cs := by
  obtain ⟨b, c, e, lo, hi, h1, h2, h3, h4, h5⟩ := h
  exact ⟨b, c, e, lo, hi, h1, by rw [hb b h1]; exact h2, h3, ARs_mono hF hw hμ _ _ h4, h5⟩

theorem ObjR_mono {id : Nat} {o : AO} (hF : ∀ b, F b → F' b) (hw : Stays F w w') (hμ : ∀ id p, μ id = some p → μ' id = some p)
    (hb : ∀ p b, μ id = some p → p.blk = some b → o.mine = true → w'.heap[b]? = w.heap[b]?) (h : ObjR w F μ id o) : ObjR w' F' μ' id o := by
  cases o with
  | gone => trivial
  | box cs => obtain ⟨p, hp, h⟩ := h; exact ⟨p, hμ _ _ hp, BoxR_mono hF hw hμ (fun b h1 => hb p b hp h1 rfl) h⟩
  | fbox cs => obtain ⟨p, hp, h, hf⟩ := h; exact ⟨p, hμ _ _ hp, BoxR_mono hF hw hμ (fun b h1 => hw b (hf b h1)) h, fun b h1 => hF b (hf b h1)⟩
  | row t xs => obtain ⟨p, hp, h⟩ := h; exact ⟨p, hμ _ _ hp, RowR_mono hF hw (fun b h1 => hb p b hp h1 rfl) h⟩
  | frow t xs => obtain ⟨p, hp, h, hf⟩ := h; exact ⟨p, hμ _ _ hp, RowR_mono hF hw (fun b h1 => hw b (hf b h1)) h, fun b h1 => hF b (hf b h1)⟩

theorem Owns_cons {id0 : Nat} {o : AO} {p0 : Pl} {id b : Nat} (h : Owns (upd μ id0 p0) ((id0, o) :: hp) id b) :
    (id = id0 ∧ o.mine = true ∧ p0.blk = some b) ∨ (id ≠ id0 ∧ Owns μ hp id b) := by
  obtain ⟨h1, p, h2, h3⟩ := h
  by_cases he : id = id0
  · subst he
    rw [lookO_same] at h1
    rw [upd_same] at h2
    cases h2
    exact .inl ⟨rfl, h1, h3⟩
  · rw [lookO_other _ _ he] at h1
    rw [upd_other he] at h2
    exact .inr ⟨he, h1, p, h2, h3⟩

/-- An object is laid anew, or turned: all others stay. -/
theorem Rl.put {id0 : Nat} {o : AO} {p0 : Pl} (h : Rl w F μ hp nx) (hst : Stays F w w') (hsz : w.heap.size ≤ w'.heap.size) (hμ : μ id0 = none ∨ μ id0 = some p0)
    (hoth : ∀ id b, id ≠ id0 → Owns μ hp id b → w'.heap[b]? = w.heap[b]?) (hobj : ObjR w' F (upd μ id0 p0) id0 o)
    (hmine : o.mine = true → ∀ b, p0.blk = some b → ¬ F b ∧ ∀ id, id ≠ id0 → ¬ Owns μ hp id b) (hid : id0 < nx') (hnx : nx ≤ nx') :
    Rl w' F (upd μ id0 p0) ((id0, o) :: hp) nx' where
  obj id := by
    by_cases he : id = id0
    · subst he; rw [lookO_same]; exact hobj
    · rw [lookO_other _ _ he]
      exact ObjR_mono (fun _ h => h) hst (upd_mono hμ) (fun p b h1 h2 h3 => hoth id b he ⟨h3, p, h1, h2⟩) (h.obj id)
  one id id' b h1 h2 := by
    rcases Owns_cons h1 with ⟨rfl, m1, b1⟩ | ⟨n1, o1⟩ <;> rcases Owns_cons h2 with ⟨rfl, m2, b2⟩ | ⟨n2, o2⟩
    · rfl
    · exact absurd o2 ((hmine m1 b b1).2 _ n2)
    · exact absurd o1 ((hmine m2 b b2).2 _ n1)
    · exact h.one _ _ _ o1 o2
  dis id b h1 := by
    rcases Owns_cons h1 with ⟨rfl, m1, b1⟩ | ⟨n1, o1⟩
    · exact (hmine m1 b b1).1
    · exact h.dis _ _ o1
  fsz b hb := Nat.lt_of_lt_of_le (h.fsz b hb) hsz
  fresh id hi := by rw [lookO_other _ _ (by omega)]; exact h.fresh id (by omega)
  unset id hi := by rw [upd_other (by omega)]; exact h.unset id (by omega)

theorem Ext.put {id0 : Nat} {o : AO} {p0 : Pl} (h : Ext B w F μ hp) (hin : μ id0 = none ∨ μ id0 = some p0) (hsz : w.heap.size ≤ w'.heap.size) (hkeep : ∀ b, b < B.w.heap.size → ¬ B.O b → w'.heap[b]? = w.heap[b]?)
    (hown : o.mine = true → ∀ b, p0.blk = some b → B.O b ∨ B.w.heap.size ≤ b) (ho : w'.os = w.os) (ht : w'.tape = w.tape) (hu : w'.output = w.output) :
    Ext B w' F (upd μ id0 p0) ((id0, o) :: hp) where
  size := Nat.le_trans h.size hsz
  keep b h1 h2 := by rw [hkeep b h1 h2]; exact h.keep b h1 h2
  fge := h.fge
  fle := h.fle
  ole id b h1 := by
    rcases Owns_cons h1 with ⟨rfl, m1, b1⟩ | ⟨_, o1⟩
    · exact hown m1 b b1
    · exact h.ole _ _ o1
  os := ho.trans h.os
  tape := ht.trans h.tape
  output := hu.trans h.output
  root k hk p hp := upd_mono hin k p (h.root k hk p hp)

/-- A row is frozen. -/
theorem Rl.freeze {id0 : Nat} {t : Ty} {xs : List t.D} (h : Rl w F μ hp nx) (ho : lookO hp id0 = .row t xs) {p : Pl} (hp0 : μ id0 = some p) :
    Rl w (fun b => F b ∨ p.blk = some b) μ ((id0, .frow t xs) :: hp) nx where
  obj id := by
    by_cases he : id = id0
    · subst he; rw [lookO_same]
      have := h.obj id
      rw [ho] at this
      obtain ⟨q, hq, hr⟩ := this
      rw [hp0] at hq; cases hq
      exact ⟨p, hp0, RowR_mono (fun _ h => .inl h) (Stays.refl _ _) (fun _ _ => rfl) hr, fun b hb => .inr hb⟩
    · rw [lookO_other _ _ he]
      exact ObjR_mono (fun _ h => .inl h) (Stays.refl _ _) (fun _ _ h => h) (fun _ _ _ _ _ => rfl) (h.obj id)
  one id id' b h1 h2 := by
    have key : ∀ i, Owns μ ((id0, AO.frow t xs) :: hp) i b → Owns μ hp i b := by
      rintro i ⟨m, q⟩
      by_cases he : i = id0
      · subst he; rw [lookO_same] at m; cases m
      · rw [lookO_other _ _ he] at m; exact ⟨m, q⟩
    exact h.one _ _ _ (key _ h1) (key _ h2)
  dis id b h1 := by
    obtain ⟨m, q, hq, hb⟩ := h1
    by_cases he : id = id0
    · subst he; rw [lookO_same] at m; cases m
    · rw [lookO_other _ _ he] at m
      rintro (hf | hf)
      · exact h.dis id b ⟨m, q, hq, hb⟩ hf
      · exact he (h.one id id0 b ⟨m, q, hq, hb⟩ ⟨by rw [ho]; rfl, p, hp0, hf⟩)
  fsz b hb := by
    rcases hb with hb | hb
    · exact h.fsz b hb
    · have := h.obj id0
      rw [ho] at this
      obtain ⟨q, hq, _, hr⟩ := this
      rw [hp0] at hq; cases hq
      rcases hr with ⟨h1, _⟩ | ⟨b', c, e, lo, hi, h1, _, _, _, h5, _⟩
      · rw [h1] at hb; cases hb
      · rw [h1] at hb; cases hb
        exact (Array.getElem?_eq_some_iff.1 h5).1
  fresh id hi := by
    rw [lookO_other]
    · exact h.fresh id hi
    · rintro rfl
      have := h.fresh _ hi
      rw [ho] at this; cases this
  unset := h.unset

theorem Ext.freeze {id0 : Nat} {t : Ty} {xs : List t.D} (h : Ext B w F μ hp) (ho : lookO hp id0 = .row t xs) {p : Pl} (hp0 : μ id0 = some p) :
    Ext B w (fun b => F b ∨ p.blk = some b) μ ((id0, .frow t xs) :: hp) where
  size := h.size
  keep := h.keep
  fge b hb := .inl (h.fge b hb)
  fle b hb := by
    rcases hb with hb | hb
    · exact h.fle b hb
    · exact .inr (h.ole id0 b ⟨by rw [ho]; rfl, p, hp0, hb⟩)
  ole id b h1 := by
    obtain ⟨m, q, hq, hb⟩ := h1
    by_cases he : id = id0
    · subst he; rw [lookO_same] at m; cases m
    · rw [lookO_other _ _ he] at m; exact h.ole id b ⟨m, q, hq, hb⟩
  os := h.os
  tape := h.tape
  output := h.output
  root := h.root

/-- An object is forgotten. -/
theorem Rl.kill (id0 : Nat) (h : Rl w F μ hp nx) : Rl w F μ ((id0, .gone) :: hp) nx where
  obj id := by
    by_cases he : id = id0
    · subst he; rw [lookO_same]; trivial
    · rw [lookO_other _ _ he]; exact h.obj id
  one id id' b h1 h2 := by
    have key : ∀ i, Owns μ ((id0, AO.gone) :: hp) i b → Owns μ hp i b := by
      rintro i ⟨m, q⟩
      by_cases he : i = id0
      · subst he; rw [lookO_same] at m; cases m
      · rw [lookO_other _ _ he] at m; exact ⟨m, q⟩
    exact h.one _ _ _ (key _ h1) (key _ h2)
  dis id b h1 := by
    obtain ⟨m, q, hq, hb⟩ := h1
    by_cases he : id = id0
    · subst he; rw [lookO_same] at m; cases m
    · rw [lookO_other _ _ he] at m; exact h.dis id b ⟨m, q, hq, hb⟩
  fsz := h.fsz
  fresh id hi := by
    by_cases he : id = id0
    · subst he; rw [lookO_same]
    · rw [lookO_other _ _ he]; exact h.fresh id hi
  unset := h.unset

theorem Ext.kill (id0 : Nat) (h : Ext B w F μ hp) : Ext B w F μ ((id0, .gone) :: hp) where
  size := h.size
  keep := h.keep
  fge := h.fge
  fle := h.fle
  ole id b h1 := by
    obtain ⟨m, q, hq, hb⟩ := h1
    by_cases he : id = id0
    · subst he; rw [lookO_same] at m; cases m
    · rw [lookO_other _ _ he] at m; exact h.ole id b ⟨m, q, hq, hb⟩
  os := h.os
  tape := h.tape
  output := h.output
  root := h.root
end
end Go.Ai
