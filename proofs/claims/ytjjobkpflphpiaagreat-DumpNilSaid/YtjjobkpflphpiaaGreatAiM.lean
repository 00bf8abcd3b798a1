/- The rest of the operations, and calls by their summaries. -/
import Derived.Test.YtjjobkpflphpiaaGreatAiL
set_option linter.unusedVariables false
set_option linter.unusedSimpArgs false
namespace Go.Ai
section
variable {P : Program} {ρ : Type} {fin : ρ} {B : Base}
variable {w : World} {F : Nat → Prop} {μ : Nat → Option Pl} {s : St} {a : Act} {o : Oper} {K : AV → St → Option ρ} {next : Act → World → Prop} {Q : Exit → Act → World → Prop} {E : Env}

theorem wp_turn' {m : Sem Value} {n : Sem Next} (hT : Then B o a K fin next) (hg : ∃ v w' F' μ' s' av, m.run P w = .ok v w' ∧ Rel B w' F' μ' s' a ∧ AR w' F' μ' av v ∧ K av s' = some fin) (he : execOp a.eval o = n) (hn : n.run P w = (do pure (.value (← m)) : Sem Next).run P w) : o.wp P a w next Q := by
  obtain ⟨v, w', F', μ', s', av, h1, h2, h3, h4⟩ := hg
  exact wp_value (w' := w') (by rw [he, hn]; simp [h1]) (hT v av s' w' F' μ' h2 h3 h4)

theorem s_slice (hr : Rel B w F μ s a) (hE : TabOk P E.T) {t : Nat} {x : Operand} {lo hi : Option Operand} (ho : o.op = .slice t x lo hi none) (h : step E o s K = some fin) : ∃ F', StillF P B w F' μ a o K fin ∧ (keepsAV (ev s.tm x) = true → F' = F) := by
  simp only [step, ho] at h
  have hx := ev_ok hr.tm x
  obtain ⟨l1, l2⟩ := opt_ok hr lo
  obtain ⟨h1, h2⟩ := opt_ok hr hi
  have fini : (∃ v' F' s' av, (∀ w2, (Instr.sliceAt t (a.eval x) (lo.map a.eval) (hi.map a.eval) none).run P w2 = .ok v' w2) ∧ Rel B w F' μ s' a ∧ AR w F' μ av v' ∧ K av s' = some fin ∧ (keepsAV (ev s.tm x) = true → F' = F)) → ∃ F', StillF P B w F' μ a o K fin ∧ (keepsAV (ev s.tm x) = true → F' = F) := by
    rintro ⟨v', F', s', av, k1, k2, k3, k4, k5⟩
    have he : execOp a.eval o = (do pure (.value (← Instr.sliceAt t (a.eval x) (lo.map a.eval) (hi.map a.eval) none))) := by simp only [execOp, ho]; rfl
    exact ⟨F', ⟨v', s', av, fun w2 => by rw [he]; simp [k1], k2, k3, k4⟩, k5⟩
  split at h
  · rename_i e hk
    exact fini (slice_ok hr (hE t) (te := E.T e) (fun e' he => by
      rcases he with he | ⟨n, he⟩
      · rw [hk] at he; cases he; exact hE e
      · rw [hk] at he; cases he) hx l1 l2 h1 h2 h)
  · rename_i n e hk
    exact fini (slice_ok hr (hE t) (te := E.T e) (fun e' he => by
      rcases he with he | ⟨n, he⟩
      · rw [hk] at he; cases he
      · rw [hk] at he; cases he; exact hE e) hx l1 l2 h1 h2 h)
  · rename_i n1 n2
    exact fini (slice_ok hr (hE t) (te := E.T t) (fun e' he => by
      rcases he with he | ⟨n, he⟩
      · exact absurd he (n1 e')
      · exact absurd he (n2 n e')) hx l1 l2 h1 h2 h)

theorem s_makeSlice (hr : Rel B w F μ s a) (hE : TabOk P E.T) (hT : Then B o a K fin next) {t : Nat} {l c : Operand} (ho : o.op = .makeSlice t l c) (h : step E o s K = some fin) : o.wp P a w next Q := by
  simp only [step, ho] at h
  have hl := ev_ok hr.tm l
  have hc := ev_ok hr.tm c
  split at h
  · rename_i e n m hk e1 e2
    rw [e1] at hl; rw [e2] at hc
    obtain ⟨hl, _⟩ := hl
    obtain ⟨hc, _⟩ := hc
    split at h
    · rename_i ty hty
      obtain ⟨hb, h⟩ := bif_none h
      simp only [Bool.and_eq_true, decide_eq_true_eq] at hb
      obtain ⟨v, w', μ', h1, h2, h3⟩ := makeSlice_ok hr ((hE t).kslice _ hk) (hE e) hty hb.1.1.2 hb.1.2 hb.2 (Nat.le_of_ble_eq_true hb.1.1.1)
      exact wp_turn hT ⟨v, w', F, μ', _, _, h1, h2, h3, h⟩ (by simp only [execOp, ho, hl, hc])
    · cases h
  · cases h

theorem s_build (hr : Rel B w F μ s a) (hE : TabOk P E.T) (hT : Then B o a K fin next) {t : Nat} {ps : Array (Nat × Operand)} (ho : o.op = .build t ps) (h : step E o s K = some fin) : o.wp P a w next Q := by
  simp only [step, ho] at h
  obtain ⟨hb, h⟩ := bif_none h
  split at h
  · rename_i cs hcs
    have hk : 1 ≤ (E.T t).size ∧ ((∃ fs, (E.T t).kind = .struct fs) ∨ ∃ n e, (E.T t).kind = .arr n e ∧ 1 ≤ (E.T e).size) ∧ (∀ fs, (E.T t).kind = .struct fs → ∀ p ∈ fs, 1 ≤ (E.T p.2).size) := by
      unfold buildOk at hb
      split at hb
      · rename_i fs hk
        simp only [Bool.and_eq_true, List.all_eq_true] at hb
        exact ⟨Nat.le_of_ble_eq_true hb.1, .inl ⟨fs, hk⟩, fun fs' hk' p hp => by rw [hk] at hk'; cases hk'; exact Nat.le_of_ble_eq_true (hb.2 p hp)⟩
      · rename_i n e hk
        simp only [Bool.and_eq_true] at hb
        exact ⟨Nat.le_of_ble_eq_true hb.1, .inr ⟨n, e, hk, Nat.le_of_ble_eq_true hb.2⟩, fun fs' hk' => by rw [hk] at hk'; cases hk'⟩
      · cases hb
    obtain ⟨k1, k2, k3⟩ := hk
    have hall : ∀ p ∈ partVals s.tm ps.toList, ∀ x, placeIn E.T t p.1 = some x → 1 ≤ x.2 := by
      intro p _ x hx
      unfold placeIn at hx
      rcases k2 with ⟨fs, hk⟩ | ⟨n, e, hk, he⟩
      · rw [hk] at hx
        simp only at hx
        split at hx
        · rename_i off ft hf
          cases hx
          exact k3 fs hk _ (List.mem_of_getElem? hf)
        · cases hx
      · rw [hk] at hx
        simp only at hx
        cases hx
        exact he
    obtain ⟨v, h1, h2⟩ := build_ok (P := P) (w := w) (F := F) (μ := μ) hE (t := t) (parts := partVals s.tm ps.toList) (vparts := ps.toList.map fun p => (p.1, a.eval p.2)) (cs := cs)
      (by simp [partVals]) (by
        have := evs_ok hr.tm (ps.toList.map (·.2))
        simpa [partVals, List.map_map, Function.comp_def] using this) k1 hall hcs k2 k3
    refine wp_value (w' := w) (v := v) ?_ (hT _ _ _ _ _ _ hr h2 h)
    have hmap : (ps.map fun (i, x) => (i, a.eval x)) = (ps.toList.map fun p => (p.1, a.eval p.2)).toArray := by
      apply Array.ext'; simp
    simp only [execOp, ho, hmap]
    simp [h1]
  · cases h

theorem s_buildSlice (hr : Rel B w F μ s a) (hE : TabOk P E.T) (hT : Then B o a K fin next) {t len : Nat} {ps : Array (Nat × Operand)} (ho : o.op = .buildSlice t len ps) (h : step E o s K = some fin) : o.wp P a w next Q := by
  simp only [step, ho] at h
  split at h
  · rename_i e hk
    split at h
    · rename_i ty hty
      obtain ⟨hb, h⟩ := bif_none h
      simp only [Bool.and_eq_true, decide_eq_true_eq] at hb
      have hev : ARs w F μ (ps.toList.map fun p => ev s.tm p.2) (ps.toList.map fun p => a.eval p.2) := by
        have := evs_ok hr.tm (ps.toList.map (·.2))
        simpa [List.map_map, Function.comp_def] using this
      obtain ⟨F', hr', _, hev⟩ := freezeAs_ok hr hev
      split at h
      · rename_i xs hxs
        have hz : (ps.toList.map fun p => (p.1, a.eval p.2)) = (List.range len).zip (ps.toList.map fun p => a.eval p.2) := by
          rw [← hb.1.1, List.zip_map', ]
        have hl : (ps.toList.map fun p => a.eval p.2).length = len := by
          have := congrArg List.length hb.1.1
          simpa using this
        obtain ⟨v, w', μ', h1, h2, h3⟩ := buildSlice_ok (P := P) hr' ((hE t).kslice _ hk) (hE e) hty (Nat.le_of_ble_eq_true hb.1.2) (Nat.le_of_ble_eq_true hb.2) hev hl hxs
        refine wp_turn hT ⟨v, w', F', μ', _, _, h1, h2, h3, h⟩ ?_
        have hmap : (ps.map fun (i, x) => (i, a.eval x)) = ((List.range len).zip (ps.toList.map fun p => a.eval p.2)).toArray := by
          rw [← hz]; apply Array.ext'; simp
        simp only [execOp, ho, hmap]
      · cases h
    · cases h
  · cases h

theorem run_builtin {c : Call} {b : Builtin} (ho : o.op = .call c) (hc : c.callee = .builtin b) :
    ∃ cs, execOp a.eval o = (do let d ← (pure { target := .builtin b c.argTypes o.type cs, args := c.args.map a.eval } : Sem Deferred); invoke d.target d.args) := by
  simp only [execOp, ho, resolve, hc]
  exact ⟨_, rfl⟩

theorem arr_of {α : Type} {x : Array α} {l : List α} (h : x.toList = l) : x = l.toArray := by
  rw [← h]

theorem s_len (hr : Rel B w F μ s a) (hE : TabOk P E.T) {c : Call} (ho : o.op = .call c) (hc : c.callee = .builtin .len) (h : step E o s K = some fin) : StillF P B w F μ a o K fin := by
  simp only [step, ho, hc] at h
  split at h
  · rename_i t x h1 h2
    obtain ⟨v, av, k1, k2, k3⟩ := len_ok hr.heap (hE t) (ev_ok hr.tm x) h o.type
    obtain ⟨cs, he⟩ := run_builtin (a := a) ho hc
    refine st_value (v := v) ?_ (hS _ _ _ _ _ _ hr k2 k3)
    rw [he]
    simp [invoke, builtin, arr_of h1, arr_of h2, k1]
  · cases h

theorem s_append (hr : Rel B w F μ s a) (hE : TabOk P E.T) (hT : Then B o a K fin next) {c : Call} (ho : o.op = .call c) (hc : c.callee = .builtin .append) (h : step E o s K = some fin) : o.wp P a w next Q := by
  simp only [step, ho, hc] at h
  split at h
  · rename_i t t' x y h1 h2
    obtain ⟨cs, he⟩ := run_builtin (a := a) ho hc
    have fini : (∃ v w' F' μ' s' av, (Builtin.append_ #[t, t'] o.type #[a.eval x, a.eval y]).run P w = .ok v w' ∧ Rel B w' F' μ' s' a ∧ AR w' F' μ' av v ∧ K av s' = some fin) → o.wp P a w next Q := by
      rintro ⟨v, w', F', μ', s', av, k1, k2, k3, k4⟩
      refine wp_value (w' := w') (v := v) ?_ (hT _ _ _ _ _ _ k2 k3 k4)
      rw [he]
      simp [invoke, builtin, arr_of h1, arr_of h2, k1]
    split at h
    · rename_i e e' hk hk'
      exact fini (append_ok hr ((hE t).kslice _ hk) ((hE t').kslice _ hk') (by intro k hd; cases hd) (hE e) (ev_ok hr.tm x) (ev_ok hr.tm y) h o.type)
    · rename_i e hk hk'
      exact fini (append_ok hr ((hE t).kslice _ hk) ((hE t').kstr hk') (by intro k hd; cases hd) (hE e) (ev_ok hr.tm x) (ev_ok hr.tm y) h o.type)
    · cases h
  · cases h

theorem s_min (hr : Rel B w F μ s a) {c : Call} (ho : o.op = .call c) (hc : c.callee = .builtin .min) (h : step E o s K = some fin) : StillF P B w F μ a o K fin := by
  simp only [step, ho, hc] at h
  split at h
  · rename_i x y h2
    obtain ⟨v, av, k1, k2, k3⟩ := min_ok (P := P) (ev_ok hr.tm x) (ev_ok hr.tm y) h
    obtain ⟨cs, he⟩ := run_builtin (a := a) ho hc
    refine st_value (v := v) ?_ (hS _ _ _ _ _ _ hr k2 k3)
    rw [he]
    simp [invoke, builtin, Builtin.min_, arr_of h2, k1]
  · cases h

theorem s_max (hr : Rel B w F μ s a) {c : Call} (ho : o.op = .call c) (hc : c.callee = .builtin .max) (h : step E o s K = some fin) : StillF P B w F μ a o K fin := by
  simp only [step, ho, hc] at h
  split at h
  · rename_i x y h2
    obtain ⟨v, av, k1, k2, k3⟩ := max_ok (P := P) (ev_ok hr.tm x) (ev_ok hr.tm y) h
    obtain ⟨cs, he⟩ := run_builtin (a := a) ho hc
    refine st_value (v := v) ?_ (hS _ _ _ _ _ _ hr k2 k3)
    rw [he]
    simp [invoke, builtin, Builtin.max_, arr_of h2, k1]
  · cases h
end
end Go.Ai
