/- Literals, new rows, conversions, places. -/
import Derived.Test.YtjjobkpflphpiaaGreatAiH
set_option linter.unusedVariables false
set_option linter.unusedSimpArgs false
namespace Go.Ai
section
variable {w : World} {F : Nat → Prop} {μ : Nat → Option Pl} {P : Program} {ρ : Type} {fin : ρ} {B : Base}

theorem foldl_splice : ∀ (vs : List Value) (k off : Nat) (cells : Array Value), off + k + vs.length ≤ cells.size →
    ((vs.zipIdx k).foldl (fun cs (x : Value × Nat) => cs.setIfInBounds (off + x.2) x.1) cells).toList = cells.toList.take (off + k) ++ vs ++ cells.toList.drop (off + k + vs.length)
  | [], k, off, cells, h => by simp
  | v :: r, k, off, cells, h => by
    simp only [List.zipIdx_cons, List.foldl_cons]
    rw [foldl_splice r (k + 1) off _ (by simp at h ⊢; omega)]
    simp at h
    rw [Array.toList_setIfInBounds, show off + (k + 1) = off + k + 1 by omega]
    rw [List.take_succ_eq_append_getElem (by simp; omega)]
    simp [List.take_set, List.drop_set]
    rw [List.set_eq_of_length_le (by simp only [List.length_take]; exact Nat.min_le_left _ _)]
    rw [if_pos (by omega)]
    rw [show off + k + 1 + r.length = off + k + (r.length + 1) by omega]

theorem fill_step {place : Nat → Option (Nat × Nat)} {cells : Array Value} {i : Nat} {v : Value} {rest : List (Nat × Value)} {off size : Nat} (hp : place i = some (off, size)) (hs : v.cells.size = size) (hf : off + size ≤ cells.size) :
    Instr.fill place cells ((i, v) :: rest) = Instr.fill place (cells.toList.take off ++ v.cells.toList ++ cells.toList.drop (off + v.cells.toList.length)).toArray rest := by
  simp only [Instr.fill, hp]
  have : ¬ ((v.cells.size ≠ size || off + v.cells.size > cells.size) = true) := by
    simp [hs]; omega
  rw [if_neg this]
  congr 1
  have e := foldl_splice v.cells.toList 0 off cells (by simp [hs]; omega)
  simp only [Nat.add_zero] at e
  rw [← e]
  have : v.cells.zipIdx.foldl (fun cs (x : Value × Nat) => cs.setIfInBounds (off + x.2) x.1) cells = v.cells.toList.zipIdx.foldl (fun cs (x : Value × Nat) => cs.setIfInBounds (off + x.2) x.1) cells := by
    rw [← Array.foldl_toList]
    simp
  simpa using this

theorem fill_ok {T : Nat → TI} {place place' : Nat → Option (Nat × Nat)} (hpl : ∀ i x, place i = some x → place' i = some x) : ∀ {parts : List (Nat × AV)} {vparts : List (Nat × Value)} {cs cs' : List AV} {cells : List Value},
    (parts.map (·.1) = vparts.map (·.1)) → ARs w F μ (parts.map (·.2)) (vparts.map (·.2)) → ARs w F μ cs cells → (∀ u ∈ cells, u.oneCell' = true) → fillCells T place cs parts = some cs' →
    ∃ cells', Instr.fill place' cells.toArray vparts = some cells'.toArray ∧ ARs w F μ cs' cells' ∧ ∀ u ∈ cells', u.oneCell' = true
  | [], vparts, cs, cs', cells, h1, h2, h3, h4, h => by
    cases vparts with
    | nil => simp only [fillCells] at h; cases h; exact ⟨cells, rfl, h3, h4⟩
    | cons _ _ => simp at h1
  | (i, a) :: r, vparts, cs, cs', cells, h1, h2, h3, h4, h => by
    cases vparts with
    | nil => simp at h1
    | cons p vr =>
      obtain ⟨i', v⟩ := p
      simp at h1
      obtain ⟨rfl, h1⟩ := h1
      obtain ⟨v', vr', he, ha, hr⟩ := h2
      simp at he
      obtain ⟨rfl, rfl⟩ := he
      simp only [fillCells] at h
      split at h
      · cases h
      · rename_i off size hp
        split at h
        · cases h
        · rename_i vs hvs
          obtain ⟨hb, h'⟩ := bif_none h
          simp only [Bool.and_eq_true] at hb
          have b1 := Nat.eq_of_beq_eq_true hb.1
          have b2 := Nat.le_of_ble_eq_true hb.2
          obtain ⟨hc, ho⟩ := cellsOf_ok ha hvs
          have hlv := ARs_len hc
          have hlc := ARs_len h3
          have key := fill_ok hpl (cells := cells.take off ++ v.cells.toList ++ cells.drop (off + v.cells.toList.length)) h1 hr (ARs_repl off h3 hc) (fun u hu => by
            simp only [List.mem_append] at hu
            rcases hu with (hu | hu) | hu
            · exact h4 u (List.mem_of_mem_take hu)
            · exact ho u hu
            · exact h4 u (List.mem_of_mem_drop hu)) h'
          obtain ⟨cells', k1, k2, k3⟩ := key
          refine ⟨cells', ?_, k2, k3⟩
          rw [fill_step (hpl _ _ hp) (by simp at hlv; omega) (by simp; omega)]
          exact k1

theorem fill_row (sz : Nat) : ∀ (vs : List Value) (k : Nat) (cells : List Value), (∀ v ∈ vs, v.cells.size = sz) → cells.length = (k + vs.length) * sz →
    Instr.fill (fun i => some (i * sz, sz)) cells.toArray ((List.range' k vs.length).zip vs) = some (cells.take (k * sz) ++ vs.flatMap fun v => v.cells.toList).toArray
  | [], k, cells, h, hl => by
    simp at hl
    simp [Instr.fill, ← hl]
  | v :: r, k, cells, h, hl => by
    simp only [List.length_cons, List.range'_succ, List.zip_cons_cons]
    have hv := h v (by simp)
    have hkk : (k + (r.length + 1)) * sz = k * sz + sz + r.length * sz := by rw [Nat.add_mul, Nat.add_mul]; omega
    simp only [List.length_cons] at hl
    rw [fill_step rfl hv (by simp; omega)]
    have hlv : v.cells.toList.length = sz := by simpa using hv
    have := fill_row sz r (k + 1) (cells.take (k * sz) ++ v.cells.toList ++ cells.drop (k * sz + v.cells.toList.length)) (fun u hu => h u (by simp [hu])) (by
      have e1 : (k + 1 + r.length) * sz = k * sz + sz + r.length * sz := by rw [Nat.add_mul, Nat.add_mul]; omega
      simp only [List.length_append, List.length_take, List.length_drop, hlv]
      omega)
    rw [this]
    congr 2
    have e2 : (k + 1) * sz = k * sz + sz := by rw [Nat.add_mul]; omega
    have hl1 : (cells.take (k * sz)).length = k * sz := by simp; omega
    rw [List.take_append_of_le_length (by simp only [List.length_append, hl1, hlv]; omega)]
    rw [List.take_of_length_le (by simp only [List.length_append, hl1, hlv]; omega)]
    simp

theorem flat_of_vals {t : Ty} {xs : List t.D} {vs : List Value} (hl : xs.length = vs.length) (he : ∀ (i : Nat) (x : t.D), xs[i]? = some x → ∃ v, vs[i]? = some v ∧ Rp w F t x v.cells.toList) : FlatR w F t xs (vs.flatMap fun v => v.cells.toList) := by
  induction vs generalizing xs with
  | nil => obtain rfl : xs = [] := List.eq_nil_of_length_eq_zero hl; exact FlatR.nil
  | cons v r ih =>
    cases xs with
    | nil => simp at hl
    | cons x xr =>
      obtain ⟨v', hv', hr⟩ := he 0 x rfl
      simp at hv'
      subst hv'
      have h1 : FlatR w F t [x] v.cells.toList := ⟨by simp [Rp_len hr], fun i y hi => by
        cases i with
        | zero => simp at hi; subst hi; exact ⟨_, hr, fun j u hj => by simpa using hj⟩
        | succ i => simp at hi⟩
      have h2 := ih (xs := xr) (by simpa using hl) (fun i y hi => by
        obtain ⟨u, hu, hru⟩ := he (i + 1) y (by simpa using hi)
        exact ⟨u, by simpa using hu, hru⟩)
      exact h1.app h2
end
end Go.Ai
