/- Stores, new objects. -/
import Derived.Test.YtjjobkpflphpiaaGreatAiE
set_option linter.unusedVariables false
set_option linter.unusedSimpArgs false
namespace Go.Ai
section
variable {w : World} {F : Nat → Prop} {μ : Nat → Option Pl} {P : Program} {ρ : Type} {fin : ρ} {B : Base}

theorem setCells_heap (b : Nat) : ∀ (vs : List Value) (o : Nat) (w : World) (c : Array Value) (e : TypeId) (fz : Nat × Nat), w.heap[b]? = some (.cells c e fz) → o + vs.length ≤ c.size →
    ∃ c', (w.setCells b o vs).heap[b]? = some (.cells c' e fz) ∧ c'.toList = c.toList.take o ++ vs ++ c.toList.drop (o + vs.length)
  | [], o, w, c, e, fz, h, hl => ⟨c, h, by simp⟩
  | v :: r, o, w, c, e, fz, h, hl => by
    have h1 : (w.setCell ⟨b, o, none⟩ v).heap[b]? = some (.cells (c.setIfInBounds o v) e fz) := by
      simp [World.setCell, Array.getElem?_modify, h]
    obtain ⟨c', h2, h3⟩ := setCells_heap b r (o + 1) (w.setCell ⟨b, o, none⟩ v) (c.setIfInBounds o v) e fz h1 (by simp at hl ⊢; omega)
    refine ⟨c', h2, ?_⟩
    simp at hl
    rw [h3, Array.toList_setIfInBounds]
    rw [List.take_succ_eq_append_getElem (by simp; omega)]
    simp [List.take_set, List.drop_set]
    rw [List.set_eq_of_length_le (by simp only [List.length_take]; exact Nat.min_le_left _ _)]
    rw [if_pos (by omega)]
    rw [show o + 1 + r.length = o + (r.length + 1) by omega]

theorem setCells_other (b : Nat) : ∀ (vs : List Value) (o : Nat) (w : World) (k : Nat), k ≠ b → (w.setCells b o vs).heap[k]? = w.heap[k]?
  | [], _, _, _, _ => rfl
  | v :: r, o, w, k, h => by
    show ((w.setCell ⟨b, o, none⟩ v).setCells b (o + 1) r).heap[k]? = _
    rw [setCells_other b r _ _ k h]
    exact Go.RowKit.Below.heap_setCell _ _ _ _ h

theorem setCells_size (b : Nat) : ∀ (vs : List Value) (o : Nat) (w : World), (w.setCells b o vs).heap.size = w.heap.size
  | [], _, _ => rfl
  | v :: r, o, w => by
    show ((w.setCell ⟨b, o, none⟩ v).setCells b (o + 1) r).heap.size = _
    rw [setCells_size b r]
    simp [World.setCell]

theorem setCells_rest (b : Nat) : ∀ (vs : List Value) (o : Nat) (w : World), (w.setCells b o vs).os = w.os ∧ (w.setCells b o vs).tape = w.tape ∧ (w.setCells b o vs).output = w.output
  | [], _, _ => ⟨rfl, rfl, rfl⟩
  | v :: r, o, w => setCells_rest b r (o + 1) (w.setCell ⟨b, o, none⟩ v)

theorem splice_get {α : Type} (l v : List α) (o k : Nat) (h : o + v.length ≤ l.length) : (l.take o ++ v ++ l.drop (o + v.length))[k]? = if k < o then l[k]? else if k < o + v.length then v[k - o]? else l[k]? := by
  have hl : (l.take o).length = o := by simp; omega
  split
  · rename_i hk
    rw [List.append_assoc, List.getElem?_append_left (by omega), List.getElem?_take_of_lt hk]
  · split
    · rw [List.append_assoc, List.getElem?_append_right (by omega), List.getElem?_append_left (by omega), hl]
    · rw [List.getElem?_append_right (by simp; omega), List.getElem?_drop]
      congr 1
      simp; omega

theorem cell_of_heap {b o : Nat} {c : Array Value} {e : TypeId} {fz : Nat × Nat} (h : w.heap[b]? = some (.cells c e fz)) : w.cell? ⟨b, o, none⟩ = c[o]? := by
  simp [World.cell?, h]

theorem store_run {t : Nat} {ti : TI} (ht : TyOk P t ti) (h1 : 1 ≤ ti.size) {b o : Nat} {c : Array Value} {e : TypeId} {lo hi : Nat} (hb : w.heap[b]? = some (.cells c e (lo, hi)))
    (hfz : ∀ o, o < c.size → ¬ (lo ≤ o ∧ o < hi)) {v : Value} (hl : v.cells.toList.length = ti.size) (ho : ∀ u ∈ v.cells.toList, u.oneCell' = true) (hfit : o + ti.size ≤ c.size) :
    (Instr.storeAt t (.pointer (some ⟨b, o, none⟩)) v).run P w = .ok () (w.setCells b o v.cells.toList) := by
  obtain ⟨i, hi', hsz, _⟩ := ht.info h1
  have hsize : (sizeOf t).run P w = .ok ti.size w := by simp [sizeOf, typeInfo, hi', hsz]
  have hst := run_storeCells_cells (P := P) b o v.cells.toList 0 w (fun j hj => by
      rw [cell_of_heap hb]
      simp; omega) (fun j hj => by
      have := hfz (o + 0 + j) (by omega)
      simp only [World.frozen?, hb]
      simp; omega) ho
  simp only [Nat.add_zero] at hst
  have hn : v.cells.size = ti.size := by simpa using hl
  simp [Instr.storeAt, Instr.sureAddr, storeVar, hsize, hn, hst]

theorem freezeV_ok {s : St} {a : Act} {x : AV} {v : Value} (hr : Rel B w F μ s a) (hx : AR w F μ x v) : ∃ F', Rel B w F' μ (freezeV s x).2 a ∧ (∀ b, F b → F' b) ∧ AR w F' μ (freezeV s x).1 v := by
  have same : ∃ F', Rel B w F' μ s a ∧ (∀ b, F b → F' b) ∧ AR w F' μ x v := ⟨F, hr, fun _ h => h, hx⟩
  unfold freezeV
  split
  · rename_i id
    obtain ⟨p, h1, rfl⟩ := hx
    have ho := hr.heap.obj id
    split
    · rename_i t xs hl
      rw [hl] at ho
      obtain ⟨q, hq, hrow⟩ := ho
      rw [h1] at hq; cases hq
      refine ⟨fun b => F b ∨ p.blk = some b, ⟨hr.heap.freeze hl h1, fun t => AR_mono (fun _ h => .inl h) (Stays.refl _ _) (fun _ _ h => h) _ _ (hr.tm t), hr.n, hr.df, hr.ext.freeze hl h1⟩, fun _ h => .inl h, ?_⟩
      obtain ⟨hsz, hrow⟩ := hrow
      rcases hrow with ⟨h2, h3, h4, h5, rfl⟩ | ⟨b, c, e, lo, hi, h2, h3, h4, h5, h6, h7, h8, h9⟩
      · refine ⟨none, 0, by simp [Pl.val, h3, h4, h5], ⟨Nat.le_refl _, fun _ => rfl⟩, fun i x hi => ?_⟩
        simp at hi
      · refine ⟨some ⟨b, p.sh, none⟩, p.cap, by simp [Pl.val, h3, h4], ⟨h5, fun e => by cases e⟩, fun i x hi => ?_⟩
        obtain ⟨ys, k1, k2, k3⟩ := h9 i x hi
        refine ⟨b, p.sh, ys, rfl, .inr h2, Rp_mono (fun _ h => .inl h) (Stays.refl _ _) k1, k2, fun j u hj => ?_⟩
        rw [cell_of_heap h6]; exact k3 j u hj
    · rename_i t xs hl
      rw [hl] at ho
      obtain ⟨q, hq, hrow, hf⟩ := ho
      rw [h1] at hq; cases hq
      refine ⟨F, hr, fun _ h => h, ?_⟩
      obtain ⟨hsz, hrow⟩ := hrow
      rcases hrow with ⟨h2, h3, h4, h5, rfl⟩ | ⟨b, c, e, lo, hi, h2, h3, h4, h5, h6, h7, h8, h9⟩
      · refine ⟨none, 0, by simp [Pl.val, h3, h4, h5], ⟨Nat.le_refl _, fun _ => rfl⟩, fun i x hi => ?_⟩
        simp at hi
      · refine ⟨some ⟨b, p.sh, none⟩, p.cap, by simp [Pl.val, h3, h4], ⟨h5, fun e => by cases e⟩, fun i x hi => ?_⟩
        obtain ⟨ys, k1, k2, k3⟩ := h9 i x hi
        refine ⟨b, p.sh, ys, rfl, hf b h2, k1, k2, fun j u hj => ?_⟩
        rw [cell_of_heap h6]; exact k3 j u hj
    · exact ⟨F, hr, fun _ h => h, trivial⟩
  · exact same

theorem freezeL_ok {a : Act} : ∀ {xs : List AV} {s : St} {F : Nat → Prop} {vs : List Value}, Rel B w F μ s a → ARs w F μ xs vs → ∃ F', Rel B w F' μ (freezeL s xs).2 a ∧ (∀ b, F b → F' b) ∧ ARs w F' μ (freezeL s xs).1 vs
  | [], s, F, vs, hr, h => ⟨F, hr, fun _ h => h, h⟩
  | x :: r, s, F, vs, hr, h => by
    obtain ⟨v, vr, rfl, h1, h2⟩ := h
    obtain ⟨F1, hr1, hF1, ha1⟩ := freezeV_ok hr h1
    obtain ⟨F2, hr2, hF2, ha2⟩ := freezeL_ok hr1 (ARs_mono hF1 (Stays.refl _ _) (fun _ _ h => h) _ _ h2)
    exact ⟨F2, hr2, fun b hb => hF2 b (hF1 b hb), v, vr, rfl, AR_mono hF2 (Stays.refl _ _) (fun _ _ h => h) _ _ ha1, ha2⟩

theorem freezeA_ok {s : St} {a : Act} {x : AV} {v : Value} (hr : Rel B w F μ s a) (hx : AR w F μ x v) : ∃ F', Rel B w F' μ (freezeA s x).2 a ∧ (∀ b, F b → F' b) ∧ AR w F' μ (freezeA s x).1 v := by
  unfold freezeA
  split
  · rename_i cs
    obtain ⟨vs, rfl, h1, h2⟩ := hx
    obtain ⟨F', k1, k2, k3⟩ := freezeL_ok hr h1
    exact ⟨F', k1, k2, vs, rfl, k3, h2⟩
  · exact freezeV_ok hr hx

theorem freezeAs_ok {a : Act} : ∀ {xs : List AV} {s : St} {F : Nat → Prop} {vs : List Value}, Rel B w F μ s a → ARs w F μ xs vs → ∃ F', Rel B w F' μ (freezeAs s xs).2 a ∧ (∀ b, F b → F' b) ∧ ARs w F' μ (freezeAs s xs).1 vs
  | [], s, F, vs, hr, h => ⟨F, hr, fun _ h => h, h⟩
  | x :: r, s, F, vs, hr, h => by
    obtain ⟨v, vr, rfl, h1, h2⟩ := h
    obtain ⟨F1, hr1, hF1, ha1⟩ := freezeA_ok hr h1
    obtain ⟨F2, hr2, hF2, ha2⟩ := freezeAs_ok hr1 (ARs_mono hF1 (Stays.refl _ _) (fun _ _ h => h) _ _ h2)
    exact ⟨F2, hr2, fun b hb => hF2 b (hF1 b hb), v, vr, rfl, AR_mono hF2 (Stays.refl _ _) (fun _ _ h => h) _ _ ha1, ha2⟩

/-- The frame's side of a change of memory. -/
theorem Rel.turn {s : St} {a : Act} {w' : World} {μ' : Nat → Option Pl} {hp : List (Nat × AO)} {nx : Nat} (hr : Rel B w F μ s a) (hst : Stays F w w') (hμ : ∀ id p, μ id = some p → μ' id = some p)
    (h1 : Rl w' F μ' hp nx) (h2 : Ext B w' F μ' hp) : Rel B w' F μ' ⟨s.n, s.tm, hp, nx⟩ a :=
  ⟨h1, fun t => AR_mono (fun _ h => h) hst hμ _ _ (hr.tm t), hr.n, hr.df, h2⟩

theorem upd_id {id : Nat} {p : Pl} (h : μ id = some p) : upd μ id p = μ := by
  funext i
  by_cases he : i = id
  · subst he; rw [upd_same, h]
  · rw [upd_other he]

theorem store_ok {s : St} {a : Act} (hr : Rel B w F μ s a) {t : Nat} {ti : TI} (ht : TyOk P t ti) {x y : AV} {vx vy : Value} {K : St → Option ρ} (hx : AR w F μ x vx) (hy : AR w F μ y vy) (h : storeStep ti s x y K = some fin) :
    ∃ w' F' s', (Instr.storeAt t vx vy).run P w = .ok () w' ∧ Rel B w' F' μ s' a ∧ K s' = some fin := by
  unfold storeStep at h
  split at h
  · cases h
  · rename_i vs hvs
    obtain ⟨hb, h'⟩ := bif_none h
    clear h
    have h := h'
    clear h'
    simp only [Bool.and_eq_true] at hb
    have hl := Nat.eq_of_beq_eq_true hb.1
    have h1 := Nat.le_of_ble_eq_true hb.2
    clear hb
    obtain ⟨hc, ho⟩ := cellsOf_ok hy hvs
    have hlen := ARs_len hc
    split at h
    · rename_i id off
      obtain ⟨p, b, hp, hblk, rfl⟩ := hx
      have hobj := hr.heap.obj id
      split at h
      · rename_i cs hcs
        obtain ⟨hfit, h⟩ := bif_none h
        have hfit := Nat.le_of_ble_eq_true hfit
        rw [hcs] at hobj
        obtain ⟨q, hq, b', c, e, lo, hi, k1, k2, k3, k4, k5⟩ := hobj
        rw [hp] at hq; cases hq
        rw [hblk] at k1; cases k1
        have hcl := ARs_len k4
        simp at hcl
        have hrun := store_run (w := w) ht h1 (o := off) k2 k3 (v := vy) (by rw [hlen, hl]) ho (by omega)
        obtain ⟨c', m1, m2⟩ := setCells_heap b vy.cells.toList off w c e (lo, hi) k2 (by rw [hlen, hl]; omega)
        have hown : Owns μ s.hp id b := ⟨by rw [hcs]; rfl, p, hp, hblk⟩
        have hst : Stays F w (w.setCells b off vy.cells.toList) := fun b' hb' => setCells_other _ _ _ _ _ (fun e => hr.heap.dis id b hown (e ▸ hb'))
        refine ⟨_, F, _, hrun, ?_, h⟩
        have hobj' : ObjR (w.setCells b off vy.cells.toList) F (upd μ id p) id (.box (repl cs off vs)) := by
          refine ⟨p, upd_same, b, c', e, lo, hi, hblk, m1, ?_, ?_, ?_⟩
          · intro o hoo
            refine k3 o ?_
            have : c'.size = c.size := by
              have := congrArg List.length m2
              simp at this
              simp at hlen
              omega
            omega
          · rw [m2]
            have := ARs_repl off (ARs_mono (fun _ h => h) hst (fun _ _ h => h) _ _ k4) (ARs_mono (fun _ h => h) hst (fun _ _ h => h) _ _ hc)
            rw [upd_id hp]
            simpa using this
          · intro u hu
            rw [m2] at hu
            simp only [List.mem_append] at hu
            rcases hu with (hu | hu) | hu
            · exact k5 u (List.mem_of_mem_take hu)
            · exact ho u hu
            · exact k5 u (List.mem_of_mem_drop hu)
        have hid : id < s.nx := by
          rcases Nat.lt_or_ge id s.nx with h | h
          · exact h
          · have := hr.heap.fresh id h; rw [hcs] at this; cases this
        have A := hr.heap.put (id0 := id) (o := .box (repl cs off vs)) (p0 := p) (nx' := s.nx) hst (by rw [setCells_size]; exact Nat.le_refl _) (.inr hp)
          (fun id' b' hne ho' => setCells_other _ _ _ _ _ (fun e => hne (hr.heap.one _ _ _ ho' (e ▸ hown)))) hobj'
          (fun _ b' hb' => by rw [hblk] at hb'; cases hb'; exact ⟨hr.heap.dis id b hown, fun id' hne ho' => hne (hr.heap.one _ _ _ ho' hown)⟩) hid (Nat.le_refl _)
        have C := hr.ext.put (id0 := id) (.inr hp) (o := .box (repl cs off vs)) (p0 := p) (w' := w.setCells b off vy.cells.toList) (by rw [setCells_size]; exact Nat.le_refl _)
          (fun b' h1 h2 => setCells_other _ _ _ _ _ (fun e => by subst e; rcases hr.ext.ole id _ hown with h | h <;> first | exact h2 h | omega))
          (fun _ b' hb' => by rw [hblk] at hb'; cases hb'; exact hr.ext.ole id b hown) (setCells_rest _ _ _ _).1 (setCells_rest _ _ _ _).2.1 (setCells_rest _ _ _ _).2.2
        rw [upd_id hp] at A C
        exact hr.turn hst (fun _ _ h => h) A C
      · cases h
    · rename_i id i off
      obtain ⟨p, b, hp, hblk, hi, rfl⟩ := hx
      obtain ⟨F1, hr1, hF1, hus⟩ := freezeL_ok hr hc
      generalize hfz : freezeL s vs = fz at h hr1 hus
      obtain ⟨us, s1⟩ := fz
      simp only at h hr1 hus
      have hobj := hr1.heap.obj id
      split at h
      · rename_i ty xs hcs
        obtain ⟨hfit, h'⟩ := bif_none h
        clear h
        have hfit := Nat.le_of_ble_eq_true hfit
        split at h'
        · rename_i x hx
          rw [hcs] at hobj
          obtain ⟨q, hq, hsz, hrow⟩ := hobj
          rw [hp] at hq; cases hq
          rcases hrow with ⟨k1, _⟩ | ⟨b', c, e, lo, hi', k1, k2, k3, k4, k5, k6, k7, k8⟩
          · rw [hblk] at k1; cases k1
          · rw [hblk] at k1; cases k1
            have hlt : i < xs.length := by omega
            obtain ⟨ys, hry, hly, hcy⟩ := k8 i (xs.getD i ty.dflt) (by rw [List.getD_eq_getElem?_getD, List.getElem?_eq_getElem hlt]; rfl)
            have hz : 0 < ty.sz := ty.sz_pos
            have hmul : (i + 1) * ty.sz ≤ p.cap * ty.sz := Nat.mul_le_mul_right _ (by omega)
            rw [Nat.add_mul] at hmul
            simp only [Nat.one_mul] at hmul
            have hfitc : p.sh + i * p.sz + off + ti.size ≤ c.size := by rw [hsz]; omega
            have hrun := store_run (w := w) ht h1 (o := p.sh + i * p.sz + off) k5 k6 (v := vy) (by rw [hlen, hl]) ho hfitc
            obtain ⟨c', m1, m2⟩ := setCells_heap b vy.cells.toList (p.sh + i * p.sz + off) w c e (lo, hi') k5 (by rw [hlen, hl]; omega)
            have hcsz : c'.size = c.size := by
              have := congrArg List.length m2
              simp at this
              simp at hlen
              omega
            have hown : Owns μ s1.hp id b := ⟨by rw [hcs]; rfl, p, hp, hblk⟩
            have hst : Stays F1 w (w.setCells b (p.sh + i * p.sz + off) vy.cells.toList) := fun b' hb' => setCells_other _ _ _ _ _ (fun e => hr1.heap.dis id b hown (e ▸ hb'))
            refine ⟨_, F1, _, hrun, ?_, h'⟩
            have hlv : vy.cells.toList.length = ti.size := by rw [hlen, hl]
            have hnew : Rp w F1 ty x (ys.take off ++ vy.cells.toList ++ ys.drop (off + vy.cells.toList.length)) := pack_all (ARs_repl off (unpack_ok (μ := μ) hry) hus) hx
            have hobj' : ObjR (w.setCells b (p.sh + i * p.sz + off) vy.cells.toList) F1 (upd μ id p) id (.row ty (xs.set i x)) := by
              refine ⟨p, upd_same, hsz, .inr ⟨b, c', e, lo, hi', hblk, k2, by simpa using k3, by simpa using k4, m1, ?_, by rw [hcsz]; exact k7, ?_⟩⟩
              · intro o hoo
                exact k6 o (by omega)
              · intro j z hj
                have hjlt : j < xs.length := by
                  have := List.getElem?_eq_some_iff.1 hj
                  simpa using this.1
                by_cases hji : j = i
                · subst hji
                  rw [List.getElem?_set_self hlt] at hj
                  cases hj
                  refine ⟨_, Rp_mono (fun _ h => h) hst hnew, by rw [Rp_len hnew], fun k u hk => ?_⟩
                  have hkl : k < ty.sz := by rw [← Rp_len hnew]; exact (List.getElem?_eq_some_iff.1 hk).1
                  have hyf : off + vy.cells.toList.length ≤ ys.length := by omega
                  rw [splice_get _ _ _ _ hyf] at hk
                  rw [← Array.getElem?_toList, m2, splice_get _ _ _ _ (by have : c.toList.length = c.size := Array.length_toList; omega), hsz]
                  by_cases g1 : k < off
                  · rw [if_pos g1] at hk
                    rw [if_pos (by omega), Array.getElem?_toList]
                    exact hcy k u hk
                  · rw [if_neg g1] at hk
                    rw [if_neg (by omega)]
                    by_cases g2 : k < off + vy.cells.toList.length
                    · rw [if_pos g2] at hk
                      rw [if_pos (by omega), ← hk]
                      congr 1
                      omega
                    · rw [if_neg g2] at hk
                      rw [if_neg (by omega), Array.getElem?_toList]
                      exact hcy k u hk
                · rw [List.getElem?_set_ne (by omega)] at hj
                  obtain ⟨zs, z1, z2, z3⟩ := k8 j z hj
                  refine ⟨zs, Rp_mono (fun _ h => h) hst z1, z2, fun k u hk => ?_⟩
                  have hkl : k < ty.sz := by rw [← z2]; exact (List.getElem?_eq_some_iff.1 hk).1
                  rw [← z3 k u hk, ← Array.getElem?_toList, m2, splice_get _ _ _ _ (by have : c.toList.length = c.size := Array.length_toList; omega), Array.getElem?_toList, hsz]
                  have hne : j < i ∨ i < j := by omega
                  rcases hne with hne | hne
                  · have : (j + 1) * ty.sz ≤ i * ty.sz := Nat.mul_le_mul_right _ (by omega)
                    rw [Nat.add_mul] at this
                    rw [if_pos (by omega)]
                  · have : (i + 1) * ty.sz ≤ j * ty.sz := Nat.mul_le_mul_right _ (by omega)
                    rw [Nat.add_mul] at this
                    rw [if_neg (by omega), if_neg (by omega)]
            have hid : id < s1.nx := by
              rcases Nat.lt_or_ge id s1.nx with h | h
              · exact h
              · have := hr1.heap.fresh id h; rw [hcs] at this; cases this
            have A := hr1.heap.put (id0 := id) (o := .row ty (xs.set i x)) (p0 := p) (nx' := s1.nx) hst (by rw [setCells_size]; exact Nat.le_refl _) (.inr hp)
              (fun id' b' hne ho' => setCells_other _ _ _ _ _ (fun e => hne (hr1.heap.one _ _ _ ho' (e ▸ hown)))) hobj'
              (fun _ b' hb' => by rw [hblk] at hb'; cases hb'; exact ⟨hr1.heap.dis id b hown, fun id' hne ho' => hne (hr1.heap.one _ _ _ ho' hown)⟩) hid (Nat.le_refl _)
            have C := hr1.ext.put (id0 := id) (.inr hp) (o := .row ty (xs.set i x)) (p0 := p) (w' := w.setCells b (p.sh + i * p.sz + off) vy.cells.toList) (by rw [setCells_size]; exact Nat.le_refl _)
              (fun b' h1 h2 => setCells_other _ _ _ _ _ (fun e => by subst e; rcases hr1.ext.ole id _ hown with h | h <;> first | exact h2 h | omega))
              (fun _ b' hb' => by rw [hblk] at hb'; cases hb'; exact hr1.ext.ole id b hown) (setCells_rest _ _ _ _).1 (setCells_rest _ _ _ _).2.1 (setCells_rest _ _ _ _).2.2
            rw [upd_id hp] at A C
            exact hr1.turn hst (fun _ _ h => h) A C
        · cases h'
      · cases h
    · cases h
end
end Go.Ai
