/- Loads, stores, new variables. -/
import Derived.Test.YtjjobkpflphpiaaGreatAiD
set_option linter.unusedVariables false
set_option linter.unusedSimpArgs false
namespace Go.Ai
section
variable {w : World} {F : Nat → Prop} {μ : Nat → Option Pl} {P : Program} {ρ : Type} {fin : ρ} {B : Base}

theorem Rp_one : ∀ {t : Ty} {x : t.D} {cs : List Value}, Rp w F t x cs → ∀ u ∈ cs, u.oneCell' = true
  | .int _, _, _, h, u, hu => by rw [h.1] at hu; simp at hu; subst hu; rfl
  | .byte, _, _, h, u, hu => by cases h; simp at hu; subst hu; rfl
  | .bool, _, _, h, u, hu => by cases h; simp at hu; subst hu; rfl
  | .str, _, _, h, u, hu => by cases h; simp at hu; subst hu; rfl
  | .list _, _, _, h, u, hu => by obtain ⟨_, _, rfl, _⟩ := h; simp at hu; subst hu; rfl
  | .prod a b, _, _, h, u, hu => by
    obtain ⟨c1, c2, rfl, h1, h2⟩ := h
    rcases List.mem_append.1 hu with hu | hu
    · exact Rp_one h1 u hu
    · exact Rp_one h2 u hu

theorem unpack_ok : ∀ {t : Ty} {x : t.D} {cs : List Value}, Rp w F t x cs → ARs w F μ (unpack t x) cs
  | .int k, n, _, h => by obtain ⟨rfl, h⟩ := h; exact ⟨_, [], rfl, ⟨rfl, h⟩, rfl⟩
  | .byte, b, _, h => by
    cases h
    refine ⟨_, [], rfl, ⟨rfl, fun _ => ?_⟩, rfl⟩
    have := UInt8.toNat_lt b
    omega
  | .bool, _, _, h => by cases h; exact ⟨_, [], rfl, rfl, rfl⟩
  | .str, _, _, h => by cases h; exact ⟨_, [], rfl, rfl, rfl⟩
  | .list t, xs, _, h => by
    obtain ⟨A, c, rfl, h⟩ := h
    exact ⟨_, [], rfl, ⟨A, c, rfl, h⟩, rfl⟩
  | .prod a b, _, _, h => by
    obtain ⟨c1, c2, rfl, h1, h2⟩ := h
    exact ARs_app (unpack_ok h1) (unpack_ok h2)

theorem pack_ok : ∀ {t : Ty} {avs : List AV} {cs : List Value} {x : t.D} {r : List AV}, ARs w F μ avs cs → pack t avs = some (x, r) → ∃ c1 c2, cs = c1 ++ c2 ∧ Rp w F t x c1 ∧ ARs w F μ r c2 := by
  intro t
  induction t with
  | int k =>
    intro avs cs x r h hp
    cases avs with
    | nil => cases hp
    | cons y ys =>
      obtain ⟨v, vr, rfl, h1, h2⟩ := h
      cases y <;> simp only [pack] at hp <;> (try (cases hp; done))
      rename_i k' n
      cases hk : decide (k = k')
      · rw [hk] at hp; cases hp
      · rw [hk] at hp
        have := of_decide_eq_true hk; subst this
        simp at hp
        obtain ⟨rfl, rfl⟩ := hp
        obtain ⟨rfl, ho⟩ := h1
        exact ⟨[_], vr, rfl, ⟨rfl, ho⟩, h2⟩
  | byte =>
    intro avs cs x r h hp
    cases avs with
    | nil => cases hp
    | cons y ys =>
      obtain ⟨v, vr, rfl, h1, h2⟩ := h
      cases y <;> (try (simp only [pack] at hp; cases hp; done))
      rename_i k' n
      cases k' <;> simp only [pack] at hp <;> (try (cases hp; done))
      simp at hp
      obtain ⟨rfl, rfl⟩ := hp
      obtain ⟨rfl, ho⟩ := h1
      refine ⟨[_], vr, rfl, ?_, h2⟩
      have := ho rfl
      show [Value.int .u8 n] = [_]
      have e : ((UInt8.ofNat n.toNat).toNat : Int) = n := by
        rw [UInt8.toNat_ofNat']
        omega
      rw [e]
  | bool =>
    intro avs cs x r h hp
    cases avs with
    | nil => cases hp
    | cons y ys =>
      obtain ⟨v, vr, rfl, h1, h2⟩ := h
      cases y <;> simp only [pack] at hp <;> (try (cases hp; done))
      simp at hp
      obtain ⟨rfl, rfl⟩ := hp
      cases h1
      exact ⟨[_], vr, rfl, rfl, h2⟩
  | str =>
    intro avs cs x r h hp
    cases avs with
    | nil => cases hp
    | cons y ys =>
      obtain ⟨v, vr, rfl, h1, h2⟩ := h
      cases y <;> simp only [pack] at hp <;> (try (cases hp; done))
      simp at hp
      obtain ⟨rfl, rfl⟩ := hp
      cases h1
      exact ⟨[_], vr, rfl, rfl, h2⟩
  | list t ih =>
    intro avs cs x r h hp
    cases avs with
    | nil => cases hp
    | cons y ys =>
      obtain ⟨v, vr, rfl, h1, h2⟩ := h
      cases y <;> simp only [pack] at hp <;> (try (cases hp; done))
      · simp at hp
        obtain ⟨rfl, rfl⟩ := hp
        cases h1
        refine ⟨[_], vr, rfl, ⟨none, 0, rfl, ⟨Nat.le_refl _, fun _ => rfl⟩, fun i x hi => ?_⟩, h2⟩
        cases hi
      · split at hp
        · rename_i he
          subst he
          simp [cast] at hp
          obtain ⟨rfl, rfl⟩ := hp
          exact ⟨[_], vr, rfl, h1, h2⟩
        · cases hp
  | prod a b iha ihb =>
    intro avs cs x r h hp
    have hp' : (match pack a avs with
      | some (x, r) => (match pack b r with
        | some (y, r') => some ((x, y), r')
        | none => none)
      | none => none) = some (x, r) := by
      rw [← hp]; cases avs <;> rfl
    clear hp
    split at hp'
    · rename_i x1 r1 h1
      split at hp'
      · rename_i y r2 h2
        cases hp'
        obtain ⟨c1, c2, rfl, hr1, hs1⟩ := iha h h1
        obtain ⟨c3, c4, rfl, hr2, hs2⟩ := ihb hs1 h2
        exact ⟨c1 ++ c3, c4, by simp, ⟨c1, c3, rfl, hr1, hr2⟩, hs2⟩
      · cases hp'
    · cases hp'

theorem pack_all {t : Ty} {avs : List AV} {cs : List Value} {x : t.D} (h : ARs w F μ avs cs) (hp : pack t avs = some (x, [])) : Rp w F t x cs := by
  obtain ⟨c1, c2, rfl, h1, h2⟩ := pack_ok h hp
  cases h2
  simpa using h1

theorem cellsOf_ok {av : AV} {v : Value} {cs : List AV} (h : AR w F μ av v) (hc : cellsOf av = some cs) : ARs w F μ cs v.cells.toList ∧ ∀ u ∈ v.cells.toList, u.oneCell' = true := by
  have one : ∀ {x : AV} {u : Value}, AR w F μ x u → u.cells = #[u] → u.oneCell' = true → ARs w F μ [x] u.cells.toList ∧ ∀ y ∈ u.cells.toList, y.oneCell' = true := by
    intro x u h1 h2 h3
    rw [h2]
    exact ⟨⟨u, [], rfl, h1, rfl⟩, fun y hy => by simp at hy; subst hy; exact h3⟩
  cases av <;> simp only [cellsOf] at hc <;> (try (cases hc; done)) <;> cases hc
  case bool => cases h; exact one rfl rfl rfl
  case int => obtain ⟨rfl, ho⟩ := h; exact one ⟨rfl, ho⟩ rfl rfl
  case str => cases h; exact one rfl rfl rfl
  case nilp => cases h; exact one rfl rfl rfl
  case nils => cases h; exact one rfl rfl rfl
  case nilf => cases h; exact one rfl rfl rfl
  case sl t xs =>
    have h' := h
    obtain ⟨A, c, he, _⟩ := h'
    cases he
    exact one h rfl rfl
  case sn t xs =>
    have h' := h
    obtain ⟨_, A, l, c, rfl⟩ := h'
    exact one h rfl rfl
  case cp => obtain ⟨b, off, vs, rfl, hr⟩ := h; exact one ⟨b, off, vs, rfl, hr⟩ rfl rfl
  case agg =>
    obtain ⟨vs, rfl, hr, ho⟩ := h
    exact ⟨by simpa [Value.cells] using hr, by simpa [Value.cells] using ho⟩
  case func => obtain ⟨as, cs, rfl, hr⟩ := h; exact one ⟨as, cs, rfl, hr⟩ rfl rfl
  case ptr => obtain ⟨p, b, h1, h2, rfl⟩ := h; exact one ⟨p, b, h1, h2, rfl⟩ rfl rfl
  case ept => obtain ⟨p, b, h1, h2, h3, rfl⟩ := h; exact one ⟨p, b, h1, h2, h3, rfl⟩ rfl rfl
  case own => obtain ⟨p, h1, rfl⟩ := h; exact one ⟨p, h1, rfl⟩ rfl rfl

theorem add_eq (b o j : Nat) : (⟨b, o, none⟩ : Addr).add j = ⟨b, o + j, none⟩ := by unfold Addr.add; split <;> simp_all

/-- What a load brings. -/
theorem load_run {t : Nat} {ti : TI} (ht : TyOk P t ti) (h1 : 1 ≤ ti.size) {b o : Nat} {vs : List Value} (hl : vs.length = ti.size) (hc : ∀ j u, vs[j]? = some u → w.cell? ⟨b, o + j, none⟩ = some u) :
    ∃ v, (Instr.loadAt t (.pointer (some ⟨b, o, none⟩))).run P w = .ok v w ∧ v = (if ti.agg = true then .agg vs.toArray else vs.getD 0 undef) ∧ (ti.agg = false → vs.length = 1 → True) := by
  obtain ⟨d, hd, hag⟩ := ht.agg h1
  obtain ⟨i, hi, hsz, _⟩ := ht.info h1
  have hlc := run_loadCells_list (P := P) w ⟨b, o, none⟩ vs (fun j v hj => by rw [add_eq]; exact hc j v hj)
  rw [hl] at hlc
  have hisagg : (isAgg t).run P w = .ok ti.agg w := by
    rw [← hag]
    cases d <;> simp [isAgg, underlying, hd]
  have hsize : (sizeOf t).run P w = .ok ti.size w := by simp [sizeOf, typeInfo, hi, hsz]
  cases ha : ti.agg
  · refine ⟨_, ?_, rfl, fun _ _ => trivial⟩
    rw [ha] at hisagg
    have h0 : vs[0]? = some (vs.getD 0 undef) := by
      rw [List.getD_eq_getElem?_getD]
      rw [List.getElem?_eq_getElem (show 0 < vs.length by omega)]; rfl
    have hcell := hc 0 _ h0
    simp only [Nat.add_zero] at hcell
    simp [Instr.loadAt, Instr.sureAddr, loadVar, hisagg, hcell]
  · refine ⟨_, ?_, rfl, fun _ _ => trivial⟩
    rw [ha] at hisagg
    simp [Instr.loadAt, Instr.sureAddr, loadVar, hisagg, hsize, hlc]

theorem valOf_ok {agg : Bool} {cs : List AV} {vs : List Value} (h : ARs w F μ cs vs) (ho : ∀ u ∈ vs, u.oneCell' = true) : AR w F μ (valOf agg cs) (if agg = true then .agg vs.toArray else vs.getD 0 undef) := by
  cases agg
  · simp only [valOf, cond_false]
    match cs, h with
    | [], _ => trivial
    | [x], h => obtain ⟨v, vr, rfl, h1, _⟩ := h; simpa using h1
    | _ :: _ :: _, _ => trivial
  · exact ⟨vs, rfl, h, ho⟩

theorem load_all {hp : List (Nat × AO)} (hr : ∀ id, ObjR w F μ id (lookO hp id)) {t : Nat} {ti : TI} (ht : TyOk P t ti) {x : AV} {vx : Value} {K : AV → Option ρ} (hx : AR w F μ x vx) (h : loadStep ti hp x K = some fin)
    (W : World → Prop) (hW : W w) (hst : (∃ cs, x = .cp cs) → ∀ w2, W w2 → Stays F w w2) (hob : ∀ w2, W w2 → ∀ id p b, lookO hp id ≠ .gone → μ id = some p → p.blk = some b → w2.heap[b]? = w.heap[b]?) :
    GotIn P W w F μ K fin (Instr.loadAt t vx) := by
  unfold loadStep at h
  have fin' : ∀ {cs : List AV} {vs : List Value} {b o : Nat}, (bif Nat.beq cs.length ti.size && Nat.ble 1 ti.size then K (valOf ti.agg cs) else none) = some fin →
      ARs w F μ cs vs → (∀ u ∈ vs, u.oneCell' = true) → (∀ w2, W w2 → ∀ j u, vs[j]? = some u → w2.cell? ⟨b, o + j, none⟩ = some u) → GotIn P W w F μ K fin (Instr.loadAt t (.pointer (some ⟨b, o, none⟩))) := by
    intro cs vs b o h ha ho hc
    obtain ⟨hb, h⟩ := bif_none h
    simp only [Bool.and_eq_true] at hb
    have h1 := Nat.eq_of_beq_eq_true hb.1
    have h2 := Nat.le_of_ble_eq_true hb.2
    refine GotIn.of h (v := _) (fun w2 hw2 => ?_) (valOf_ok ha ho)
    obtain ⟨v, hv, rfl, _⟩ := load_run (w := w2) ht h2 (vs := vs) (by rw [ARs_len ha, h1]) (hc w2 hw2)
    exact hv
  have boxes : ∀ {cs : List AV} {p : Pl} {b : Nat} {off : Nat}, (∀ w2, W w2 → w2.heap[b]? = w.heap[b]?) → p.blk = some b → BoxR w F μ p cs → (let f := fun cs : List AV => (bif Nat.beq cs.length ti.size && Nat.ble 1 ti.size then K (valOf ti.agg cs) else none); f ((cs.drop off).take ti.size)) = some fin →
      GotIn P W w F μ K fin (Instr.loadAt t (.pointer (some ⟨b, off, none⟩))) := by
    intro cs p b off hkeep hb hbox h
    obtain ⟨b', c, e, lo, hi, h1, h2, h3, h4, h5⟩ := hbox
    rw [hb] at h1; cases h1
    refine fin' h (ARs_take _ (ARs_drop _ h4)) (fun u hu => h5 u (List.mem_of_mem_drop (List.mem_of_mem_take hu))) (fun w2 hw2 j u hj => ?_)
    have : c.toList[off + j]? = some u := by
      rw [List.getElem?_take] at hj
      split at hj
      · rwa [List.getElem?_drop] at hj
      · cases hj
    simp only [World.cell?, hkeep w2 hw2, h2]
    simpa using this
  have rows : ∀ {ty : Ty} {xs : List ty.D} {p : Pl} {b i off : Nat}, (∀ w2, W w2 → w2.heap[b]? = w.heap[b]?) → p.blk = some b → i < p.len → RowR w F p ty xs → (let f := fun cs : List AV => (bif Nat.beq cs.length ti.size && Nat.ble 1 ti.size then K (valOf ti.agg cs) else none); f (((unpack ty (xs.getD i ty.dflt)).drop off).take ti.size)) = some fin →
      GotIn P W w F μ K fin (Instr.loadAt t (.pointer (some ⟨b, p.sh + i * p.sz + off, none⟩))) := by
    intro ty xs p b i off hkeep hb hi hrow h
    obtain ⟨hsz, hrow⟩ := hrow
    rcases hrow with ⟨h1, _⟩ | ⟨b', c, e, lo, hi', h1, h2, h3, h4, h5, h6, h7, h8⟩
    · rw [hb] at h1; cases h1
    · rw [hb] at h1; cases h1
      have hlt : i < xs.length := by omega
      obtain ⟨ys, hry, hly, hcy⟩ := h8 i (xs.getD i ty.dflt) (by rw [List.getD_eq_getElem?_getD, List.getElem?_eq_getElem hlt]; rfl)
      refine fin' h (ARs_take _ (ARs_drop _ (unpack_ok hry))) (fun u hu => Rp_one hry u (List.mem_of_mem_drop (List.mem_of_mem_take hu))) (fun w2 hw2 j u hj => ?_)
      have : ys[off + j]? = some u := by
        rw [List.getElem?_take] at hj
        split at hj
        · rwa [List.getElem?_drop] at hj
        · cases hj
      have := hcy _ _ this
      simp only [World.cell?, hkeep w2 hw2, h5]
      rw [hsz]
      simpa [Nat.add_assoc] using this
  split at h
  · rename_i id off
    obtain ⟨p, b, h1, h2, rfl⟩ := hx
    have ho := hr id
    split at h
    · rename_i cs hl
      rw [hl] at ho
      obtain ⟨q, hq, hbox⟩ := ho
      rw [h1] at hq; cases hq
      exact boxes (fun w2 hw2 => hob w2 hw2 id _ _ (by rw [hl]; exact fun e => by cases e) h1 h2) h2 hbox h
    · rename_i cs hl
      rw [hl] at ho
      obtain ⟨q, hq, hbox, _⟩ := ho
      rw [h1] at hq; cases hq
      exact boxes (fun w2 hw2 => hob w2 hw2 id _ _ (by rw [hl]; exact fun e => by cases e) h1 h2) h2 hbox h
    · cases h
  · rename_i cs
    obtain ⟨b, off, vs, rfl, hb, ha, ho, hc⟩ := hx
    refine fin' h (ARs_take _ ha) (fun u hu => ho u (List.mem_of_mem_take hu)) (fun w2 hw2 j u hj => ?_)
    rw [List.getElem?_take] at hj
    split at hj
    · rw [(hst ⟨_, rfl⟩ w2 hw2).cell hb]; exact hc j u hj
    · cases hj
  · rename_i id i off
    obtain ⟨p, b, h1, h2, h3, rfl⟩ := hx
    have ho := hr id
    split at h
    · rename_i ty xs hl
      rw [hl] at ho
      obtain ⟨q, hq, hrow⟩ := ho
      rw [h1] at hq; cases hq
      exact rows (fun w2 hw2 => hob w2 hw2 id _ _ (by rw [hl]; exact fun e => by cases e) h1 h2) h2 h3 hrow h
    · rename_i ty xs hl
      rw [hl] at ho
      obtain ⟨q, hq, hrow, _⟩ := ho
      rw [h1] at hq; cases hq
      exact rows (fun w2 hw2 => hob w2 hw2 id _ _ (by rw [hl]; exact fun e => by cases e) h1 h2) h2 h3 hrow h
    · cases h
  · cases h

theorem load_ok {s : St} {nx : Nat} (hr : Rl w F μ s.hp nx) {t : Nat} {ti : TI} (ht : TyOk P t ti) {x : AV} {vx : Value} {K : AV → Option ρ} (hx : AR w F μ x vx) (h : loadStep ti s.hp x K = some fin) :
    GotAt P w F μ K fin (Instr.loadAt t vx) := by
  obtain ⟨v, av, h1, h2, h3⟩ := load_all hr.obj ht hx h (fun w2 => w2 = w) rfl (fun _ w2 hw => by rw [hw]; exact Stays.refl _ _) (fun w2 hw _ _ _ _ _ _ => by rw [hw])
  exact ⟨v, av, h1 w rfl, h2, h3⟩

end
end Go.Ai
