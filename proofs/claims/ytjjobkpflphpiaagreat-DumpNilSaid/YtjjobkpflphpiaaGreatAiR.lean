/- Control, and whole functions. -/
import Derived.Test.YtjjobkpflphpiaaGreatAiQ
set_option linter.unusedVariables false
set_option linter.unusedSimpArgs false
namespace Go.Ai
section
variable {P : Program} {ρ : Type} {fin : ρ} {B : Base}
variable {w : World} {F : Nat → Prop} {μ : Nat → Option Pl} {s : St} {a : Act} {E : Env}

theorem ext_sub {hp : List (Nat × AO)} {m : Nat → Nat} {ord : List Nat} (h : Ext B w F μ hp) (hr : ∃ t, ord = List.range B.n0 ++ t) : Ext B w F (subμ μ ord) (subHp hp m ord 0) where
  size := h.size
  keep := h.keep
  fge := h.fge
  fle := h.fle
  ole k b ho := by
    obtain ⟨id, _, ho⟩ := sub_owns ho
    exact h.ole id b ho
  os := h.os
  tape := h.tape
  output := h.output
  root k hk p hp := by
    obtain ⟨t, ht⟩ := hr
    have : ord[k]? = some k := by
      rw [ht, List.getElem?_append_left (by simpa using hk)]
      simp [hk]
    simp [subμ, this, h.root k hk p hp]

theorem normV1_ok {m : Mode} {v v' : AV} {s' : St} {u : Value} (hr : Rel B w F μ s a) (hv : AR w F μ v u) (h : normV1 s m v = some (v', s')) :
    ∃ F' μ', Rel B w F' μ' s' a ∧ AR w F' μ' v' u ∧ (∀ b, F b → F' b) ∧ (∀ id p, μ id = some p → μ' id = some p) := by
  cases m with
  | keep =>
    have : v = v' ∧ s = s' := by cases v <;> (simp only [normV1] at h; cases h; exact ⟨rfl, rfl⟩)
    obtain ⟨rfl, rfl⟩ := this
    exact ⟨F, μ, hr, hv, fun _ h => h, fun _ _ h => h⟩
  | own t =>
    cases v <;> simp only [normV1] at h <;> (try (cases h; done))
    case nils =>
      cases h
      cases hv
      obtain ⟨μ', h1, h2, h3⟩ := Rel.nilRow hr t
      exact ⟨F, μ', h1, h2, fun _ h => h, h3⟩
    case own id =>
      split at h
      · split at h
        · cases h; exact ⟨F, μ, hr, hv, fun _ h => h, fun _ _ h => h⟩
        · cases h
      · cases h
  | imm t =>
    cases v <;> simp only [normV1] at h <;> (try (cases h; done))
    case nils =>
      cases h
      cases hv
      refine ⟨F, μ, hr, ⟨none, 0, rfl, ⟨Nat.le_refl _, fun _ => rfl⟩, fun i x hx => ?_⟩, fun _ h => h, fun _ _ h => h⟩
      have : ([] : List t.D)[i]? = some x := hx
      simp at this
    case own id =>
      obtain ⟨F', h1, h2, h3⟩ := freezeV_ok hr hv
      generalize freezeV s (.own id) = fz at h h1 h3
      obtain ⟨y, s1⟩ := fz
      split at h
      · rename_i t' xs s2 he
        cases he
        split at h
        · cases h; exact ⟨F', μ, h1, h3, h2, fun _ _ h => h⟩
        · cases h
      · cases h
    case sl t' xs =>
      split at h
      · cases h; exact ⟨F, μ, hr, hv, fun _ h => h, fun _ _ h => h⟩
      · cases h
  | bx ms => cases v <;> simp only [normV1] at h <;> cases h

theorem normV1_box {m : Mode} {v v' : AV} {s' : St} (hr : Rel B w F μ s a) (h : normV1 s m v = some (v', s')) {id : Nat} {cs : List AV} (hb : lookO s.hp id = .box cs) : lookO s'.hp id = .box cs := by
  cases m with
  | keep =>
    have : s = s' := by cases v <;> (simp only [normV1] at h; cases h; rfl)
    rw [← this]; exact hb
  | own t =>
    cases v <;> simp only [normV1] at h <;> (try (cases h; done))
    case nils =>
      cases h
      simp only [St.new]
      rw [lookO_other]
      · exact hb
      · rintro rfl
        have := hr.heap.fresh _ (Nat.le_refl _)
        rw [hb] at this; cases this
    case own id' =>
      split at h
      · split at h
        · cases h; exact hb
        · cases h
      · cases h
  | imm t =>
    cases v <;> simp only [normV1] at h <;> (try (cases h; done))
    case nils => cases h; exact hb
    case own id' =>
      have hf : lookO (freezeV s (.own id')).2.hp id = .box cs := by
        simp only [freezeV]
        split
        · rename_i t' xs hl
          by_cases he : id = id'
          · subst he; rw [hb] at hl; cases hl
          · simp only [St.setO]; rw [lookO_other _ _ he]; exact hb
        · exact hb
        · exact hb
      generalize freezeV s (.own id') = fz at h hf
      obtain ⟨y, s1⟩ := fz
      split at h
      · rename_i t' xs s2 he
        cases he
        split at h
        · cases h; exact hf
        · cases h
      · cases h
    case sl t' xs =>
      split at h
      · cases h; exact hb
      · cases h
  | bx ms => cases v <;> simp only [normV1] at h <;> cases h

theorem ARs_set {xs : List AV} {vs : List Value} {i : Nat} {x : AV} (h : ARs w F μ xs vs) (hx : ∀ v, vs[i]? = some v → AR w F μ x v) : ARs w F μ (xs.set i x) vs := by
  induction xs generalizing vs i with
  | nil => exact h
  | cons y r ih =>
    obtain ⟨v, vr, rfl, h1, h2⟩ := h
    cases i with
    | zero => exact ⟨v, vr, rfl, hx v rfl, h2⟩
    | succ i => exact ⟨v, vr, rfl, h1, ih h2 (fun u hu => hx u (by simpa using hu))⟩

theorem normC_ok : ∀ {ms : List (Bool × Nat × Ty)} {s s' : St} {F : Nat → Prop} {μ : Nat → Option Pl} {cs cs' : List AV} {us : List Value}, Rel B w F μ s a → ARs w F μ cs us → normC s ms cs = some (cs', s') → ∀ {id : Nat} {cs0 : List AV}, lookO s.hp id = .box cs0 →
    ∃ F' μ', Rel B w F' μ' s' a ∧ ARs w F' μ' cs' us ∧ (∀ b, F b → F' b) ∧ (∀ id p, μ id = some p → μ' id = some p) ∧ lookO s'.hp id = .box cs0
  | [], s, s', F, μ, cs, cs', us, hr, ha, h, id, cs0, hb => by
    simp only [normC] at h; cases h
    exact ⟨F, μ, hr, ha, fun _ h => h, fun _ _ h => h, hb⟩
  | (b, i, t) :: r, s, s', F, μ, cs, cs', us, hr, ha, h, id, cs0, hb => by
    simp only [normC] at h
    split at h
    · rename_i v hv
      split at h
      · rename_i v' s1 hn
        obtain ⟨u, hu, hvu⟩ := ARs_get ha hv
        obtain ⟨F1, μ1, h1, h2, h3, h4⟩ := normV1_ok hr hvu hn
        have hb1 := normV1_box hr hn hb
        obtain ⟨F2, μ2, k1, k2, k3, k4, k5⟩ := normC_ok h1 (ARs_set (i := i) (x := v') (ARs_mono h3 (Stays.refl _ _) h4 _ _ ha) (fun u' hu' => by rw [hu] at hu'; cases hu'; exact h2)) h hb1
        exact ⟨F2, μ2, k1, k2, fun b hb => k3 b (h3 b hb), fun id p hp => k4 id p (h4 id p hp), k5⟩
      · cases h
    · cases h

theorem rebox (hr : Rel B w F μ s a) {id : Nat} {cs cs' : List AV} {p : Pl} (hl : lookO s.hp id = .box cs) (hp : μ id = some p) (hbox : BoxR w F μ p cs') : Rel B w F μ (s.setO id (.box cs')) a := by
  obtain ⟨b, c, e, lo, hi, h1, h2, h3, h4, h5⟩ := hbox
  have hown : Owns μ s.hp id b := ⟨by rw [hl]; rfl, p, hp, h1⟩
  have hid : id < s.nx := by
    rcases Nat.lt_or_ge id s.nx with h | h
    · exact h
    · have := hr.heap.fresh id h; rw [hl] at this; cases this
  have A := hr.heap.put (id0 := id) (o := .box cs') (p0 := p) (nx' := s.nx) (Stays.refl F w) (Nat.le_refl _) (.inr hp) (fun _ _ _ _ => rfl)
    ⟨p, upd_same, b, c, e, lo, hi, h1, h2, h3, by rw [upd_id hp]; exact h4, h5⟩
    (fun _ b' hb' => by rw [h1] at hb'; cases hb'; exact ⟨hr.heap.dis id b hown, fun id' hne ho' => hne (hr.heap.one _ _ _ ho' hown)⟩) hid (Nat.le_refl _)
  have C := hr.ext.put (id0 := id) (.inr hp) (o := .box cs') (p0 := p) (w' := w) (Nat.le_refl _) (fun _ _ _ => rfl)
    (fun _ b' hb' => by rw [h1] at hb'; cases hb'; exact hr.ext.ole id b hown) rfl rfl rfl
  rw [upd_id hp] at A C
  exact hr.turn (Stays.refl F w) (fun _ _ h => h) A C

theorem normV_ok {m : Mode} {v v' : AV} {s' : St} {u : Value} (hr : Rel B w F μ s a) (hv : AR w F μ v u) (h : normV s m v = some (v', s')) :
    ∃ F' μ', Rel B w F' μ' s' a ∧ AR w F' μ' v' u ∧ (∀ b, F b → F' b) ∧ (∀ id p, μ id = some p → μ' id = some p) := by
  unfold normV at h
  split at h
  · rename_i ms
    split at h
    · rename_i id off
      split at h
      · rename_i cs hl
        split at h
        · rename_i cs' s1 hn
          cases h
          have hobj := hr.heap.obj id
          rw [hl] at hobj
          obtain ⟨p, hp, b, c, e, lo, hi, h1, h2, h3, h4, h5⟩ := hobj
          obtain ⟨F', μ', k1, k2, k3, k4, k5⟩ := normC_ok hr h4 hn hl
          exact ⟨F', μ', rebox k1 k5 (k4 _ _ hp) ⟨b, c, e, lo, hi, h1, h2, h3, k2, h5⟩, AR_mono k3 (Stays.refl _ _) k4 _ _ hv, k3, k4⟩
        · cases h
      · cases h
    · cases h
  · exact normV1_ok hr hv h

theorem normL_ok : ∀ {sl : List (Nat × Mode)} {s : St} {F : Nat → Prop} {μ : Nat → Option Pl} {acc tm : List (Nat × AV)} {s' : St}, Rel B w F μ s a → (∀ p ∈ acc, AR w F μ p.2 (a.tmps.getD p.1 undef)) → normL s sl acc = some (tm, s') →
    ∃ F' μ', Rel B w F' μ' s' a ∧ ∀ p ∈ tm, AR w F' μ' p.2 (a.tmps.getD p.1 undef)
  | [], s, F, μ, acc, tm, s', hr, ha, h => by
    simp only [normL] at h; cases h
    exact ⟨F, μ, hr, ha⟩
  | (t, m) :: r, s, F, μ, acc, tm, s', hr, ha, h => by
    simp only [normL] at h
    split at h
    · rename_i v s1 hv
      obtain ⟨F1, μ1, h1, h2, h3, h4⟩ := normV_ok hr (hr.tm t) hv
      refine normL_ok h1 (fun p hp => ?_) h
      cases hp with
      | head => exact h2
      | tail _ hp => exact AR_mono h3 (Stays.refl _ _) h4 _ _ (ha p hp)
    · cases h

theorem lookV_mem : ∀ {l : List (Nat × AV)} {t : Nat}, lookV l t = .und ∨ ∃ p ∈ l, p.1 = t ∧ lookV l t = p.2
  | [], t => .inl rfl
  | (t', v) :: r, t => by
    by_cases he : t = t'
    · subst he
      rw [lookV_same]
      exact .inr ⟨(t, v), by simp, rfl, rfl⟩
    · rw [lookV_other _ _ he]
      rcases lookV_mem (l := r) (t := t) with h | ⟨p, h1, h2, h3⟩
      · exact .inl h
      · exact .inr ⟨p, by simp [h1], h2, h3⟩

theorem refsL_mem {l : List AV} {v : AV} (h : v ∈ l) : ∀ id ∈ refs v, id ∈ refsL l := by
  induction l with
  | nil => cases h
  | cons x r ih =>
    intro id hi
    simp only [refsL, List.mem_append]
    cases h with
    | head => exact .inl hi
    | tail _ h => exact .inr (ih h id hi)

theorem norm_ok {n0 : Nat} (hn0 : B.n0 = n0) {sl : List (Nat × Mode)} {K : St → Option ρ} (hr : Rel B w F μ s a) (h : norm n0 sl s K = some fin) : ∃ F' μ' s', Rel B w F' μ' s' a ∧ K s' = some fin := by
  unfold norm at h
  split at h
  · cases h
  · rename_i tm s1 hl
    obtain ⟨F', μ', h1, h2⟩ := normL_ok hr (fun p hp => by cases hp) hl
    split at h
    · cases h
    · rename_i ord hg
      obtain ⟨hn, _, hin, hc⟩ := gather_ok hg List.nodup_nil (fun id h => by cases h)
      refine ⟨F', subμ μ' ord, ⟨s1.n, tm.map fun p => (p.1, ren (fun id => idx id ord 0) p.2), subHp s1.hp (fun id => idx id ord 0) ord 0, ord.length⟩, ⟨sub_rl h1.heap hn hc, fun t => ?_, h1.n, h1.df, ext_sub h1.ext (by rw [hn0]; exact gather_roots hg)⟩, h⟩
      rcases lookV_mem (l := tm.map fun p => (p.1, ren (fun id => idx id ord 0) p.2)) (t := t) with hu | ⟨p, hp, rfl, hv⟩
      · show AR _ _ _ (lookV _ t) _
        rw [hu]; trivial
      · show AR _ _ _ (lookV _ p.1) _
        rw [hv]
        obtain ⟨q, hq, rfl⟩ := List.mem_map.1 hp
        exact AR_ren' _ _ (fun id hi pl hpl => sub_m (hin id (by
          simp only [List.mem_append]
          exact .inr (refsL_mem (List.mem_map.2 ⟨q, hq, rfl⟩) id hi))) hpl) (h2 q hq)

def Ex.to : Ex → Exit
  | .normal => .normal
  | .exit id => .exit id
  | .ret => .ret

/-- What is to be shown behind a piece of code. -/
def Ends (B : Base) (K : Ex → St → Option ρ) (fin : ρ) (Q : Exit → Act → World → Prop) : Prop :=
  ∀ e s' a' w' F' μ', Rel B w' F' μ' s' a' → K e s' = some fin → Q e.to a' w'

/-- From a loop's head on. -/
def LoopWp (P : Program) (c : Code) (Q : Exit → Act → World → Prop) (a : Act) (w : World) : Prop :=
  ∀ (b : Frame) (k : List Item) (cs : List Frame), ∃ e a' w', Q e a' w' ∧ Arrives P (lone (b.at a (.code c :: .inLoop c :: k)) cs w) b k cs e a' w'

theorem wp_loopWp {c : Code} {Q : Exit → Act → World → Prop} (h : LoopWp P c Q a w) : (Code.loop c).wp P Q a w := fun b k cs =>
  let ⟨e, a', w', hq, harr⟩ := h b k cs
  ⟨e, a', w', hq, .of_steps (.one step_loop) harr⟩

theorem loopWp_step {c : Code} {Q : Exit → Act → World → Prop} (h : c.wp P (Exit.then (LoopWp P c Q) Q) a w) : LoopWp P c Q a w := by
  intro b k cs
  obtain ⟨e, a₁, w₁, hq, harr⟩ := h b (.inLoop c :: k) cs
  cases e with
  | normal =>
    obtain ⟨e₂, a₂, w₂, hq₂, harr₂⟩ := hq b k cs
    exact ⟨e₂, a₂, w₂, hq₂, .of_steps (Steps.trans harr (.one step_inLoop)) harr₂⟩
  | exit id => exact ⟨_, a₁, w₁, hq, .pass (x := .inLoop c) rfl (fun _ _ => .inl (by simp)) harr⟩
  | goto l => exact ⟨_, a₁, w₁, hq, .pass (x := .inLoop c) rfl (fun _ _ => .inl (by simp)) harr⟩
  | ret => exact ⟨_, a₁, w₁, hq, .pass (x := .inLoop c) rfl (fun _ _ => .inl (by simp)) harr⟩
  | panic ch => exact ⟨_, a₁, w₁, hq, .pass (x := .inLoop c) rfl (fun _ _ => .inl (by simp)) harr⟩
  | outgrown => exact ⟨_, a₁, w₁, hq, .pass (x := .inLoop c) rfl (fun _ _ => .inl (by simp)) harr⟩

theorem loop_ok {c : Code} {body : (Ex → St → Option ρ) → St → Option ρ} {nrm : St → (St → Option ρ) → Option ρ} {K : Ex → St → Option ρ} {Q : Exit → Act → World → Prop}
    (hbody : ∀ (K : Ex → St → Option ρ) (s : St) (a : Act) (w : World) (F : Nat → Prop) (μ : Nat → Option Pl) (Q : Exit → Act → World → Prop), Rel B w F μ s a → body K s = some fin → Ends B K fin Q → c.wp P Q a w)
    (hnrm : ∀ (s : St) (k : St → Option ρ) (a : Act) (w : World) (F : Nat → Prop) (μ : Nat → Option Pl), Rel B w F μ s a → nrm s k = some fin → ∃ F' μ' s', Rel B w F' μ' s' a ∧ k s' = some fin)
    (hK : Ends B K fin Q) : ∀ (f : Nat) (s : St) (a : Act) (w : World) (F : Nat → Prop) (μ : Nat → Option Pl), Rel B w F μ s a → loopR body nrm K f s = some fin → LoopWp P c Q a w
  | 0, _, _, _, _, _, _, h => by cases h
  | f + 1, s, a, w, F, μ, hr, h => by
    simp only [loopR] at h
    refine loopWp_step (hbody _ s a w F μ _ hr h ?_)
    intro e s' a' w' F' μ' hr' hk
    cases e with
    | normal =>
      obtain ⟨F2, μ2, s2, h1, h2⟩ := hnrm _ _ _ _ _ _ hr' hk
      exact loop_ok hbody hnrm hK f s2 a' w' F2 μ2 h1 h2
    | exit id => exact hK (.exit id) _ _ _ _ _ hr' hk
    | ret => exact hK .ret _ _ _ _ _ hr' hk

theorem run_ok (hm : P.follows .mixedOrders = true) (hE : EnvOk P E) {ann : Nat → Option (List (Nat × Mode))} {pl : Nat → Option (List (Nat × Bool) × List Nat)} {fu n0 : Nat} (hn0 : B.n0 = n0) :
    ∀ (c : Code) (K : Ex → St → Option ρ) (s : St) (a : Act) (w : World) (F : Nat → Prop) (μ : Nat → Option Pl) (Q : Exit → Act → World → Prop),
      Rel B w F μ s a → run E ann pl fu n0 c K s = some fin → Ends B K fin Q → c.wp P Q a w := by
  intro c
  induction c with
  | skip =>
    intro K s a w F μ Q hr h hK
    exact wp_skip (hK .normal _ _ _ _ _ hr (by simpa only [run] using h))
  | label l =>
    intro K s a w F μ Q hr h hK
    exact wp_label (hK .normal _ _ _ _ _ hr (by simpa only [run] using h))
  | exit id =>
    intro K s a w F μ Q hr h hK
    exact wp_exit (hK (.exit id) _ _ _ _ _ hr (by simpa only [run] using h))
  | ret =>
    intro K s a w F μ Q hr h hK
    exact wp_ret (hK .ret _ _ _ _ _ hr (by simpa only [run] using h))
  | region id ops draw =>
    intro K s a w F μ Q hr h hK
    simp only [run] at h
    cases draw
    · exact region_ok hE (K := fun s' => K .normal s') (fun s' a' w' F' μ' hr' hk => hK .normal _ _ _ _ _ hr' hk) hr h
    · simp only [cond_true] at h
      split at h
      · cases h
      · rename_i plan hts hpl
        obtain ⟨hb, h⟩ := bif_none h
        simp only [Bool.and_eq_true] at hb
        exact draw_ok hm hE (K := fun s' => K .normal s') (fun s' a' w' F' μ' hr' hk => hK .normal _ _ _ _ _ hr' hk) hr hb.1.1 hb.1.2 (Nat.eq_of_beq_eq_true hb.2) h
  | seq x y ihx ihy =>
    intro K s a w F μ Q hr h hK
    simp only [run] at h
    refine wp_seq (ihx _ s a w F μ _ hr h ?_)
    intro e s' a' w' F' μ' hr' hk
    cases e with
    | normal => exact ihy _ _ _ _ _ _ _ hr' hk hK
    | exit id => exact hK (.exit id) _ _ _ _ _ hr' hk
    | ret => exact hK .ret _ _ _ _ _ hr' hk
  | cond cc x y ihx ihy =>
    intro K s a w F μ Q hr h hK
    simp only [run] at h
    have hc := ev_ok hr.tm cc
    split at h
    · rename_i b hb
      rw [hb] at hc
      cases b
      · exact wp_cond_false hc (ihy _ _ _ _ _ _ _ hr h hK)
      · exact wp_cond_true hc (ihx _ _ _ _ _ _ _ hr h hK)
    · cases h
  | block id c ih =>
    intro K s a w F μ Q hr h hK
    simp only [run] at h
    refine wp_block (ih _ s a w F μ _ hr h ?_)
    intro e s' a' w' F' μ' hr' hk
    cases e with
    | normal => exact hK .normal _ _ _ _ _ hr' hk
    | ret => exact hK .ret _ _ _ _ _ hr' hk
    | exit i =>
      simp only at hk
      show (if i = id then Q .normal a' w' else Q (.exit i) a' w')
      cases hb : Nat.beq i id
      · rw [hb] at hk
        rw [if_neg (fun e => by subst e; rw [Nat.beq_refl] at hb; cases hb)]
        exact hK (.exit i) _ _ _ _ _ hr' hk
      · rw [hb] at hk
        rw [if_pos (Nat.eq_of_beq_eq_true hb)]
        exact hK .normal _ _ _ _ _ hr' hk
  | loop c ih =>
    intro K s a w F μ Q hr h hK
    simp only [run] at h
    split at h
    · rename_i sl hsl
      obtain ⟨F', μ', s', h1, h2⟩ := norm_ok hn0 hr h
      exact wp_loopWp (loop_ok ih (fun s k a w F μ hr h => norm_ok hn0 hr h) hK fu s' a w F' μ' h1 h2)
    · exact wp_loopWp (loop_ok ih (fun s k a w F μ hr h => ⟨F, μ, s, hr, h⟩) hK fu s a w F μ hr h)
  | _ =>
    intro K s a w F μ Q hr h hK
    simp only [run] at h
    cases h

/-! Results. -/
theorem plain_addr {t : Nat} {ti : TI} {x : AV} {v : Value} {hp : List (Nat × AO)} {K : AV → Option ρ} (hx : AR w F μ x v) (h : loadStep ti hp x K = some fin) : ∃ A, v = .pointer (some A) := by
  unfold loadStep at h
  split at h
  · obtain ⟨_, _, _, _, rfl⟩ := hx; exact ⟨_, rfl⟩
  · obtain ⟨_, _, _, rfl, _⟩ := hx; exact ⟨_, rfl⟩
  · obtain ⟨_, _, _, _, _, rfl⟩ := hx; exact ⟨_, rfl⟩
  · cases h

theorem res_ok (hE : TabOk P E.T) (hr : Rel B w F μ s a) {g : ResultVar → Sem Value} (hg1 : ∀ t, g (.tmp t) = pure (a.tmps.getD t undef)) (hg2 : ∀ x t, g (.cell x t) = do loadVar t (← asAddr (a.tmps.getD x undef))) : ∀ (l : List ResultVar) (acc : List AV) (vacc : List Value) (K : List AV → Option ρ), ARs w F μ acc.reverse vacc.reverse → resStep E s l acc K = some fin →
    ∃ avs vs, ARs w F μ avs vs ∧ K avs = some fin ∧ ∃ us, vs = vacc.reverse ++ us ∧ (l.mapM g).run P w = .ok us w
  | [], acc, vacc, K, ha, h => ⟨_, _, ha, h, [], by simp, rfl⟩
  | .tmp t :: r, acc, vacc, K, ha, h => by
    simp only [resStep] at h
    obtain ⟨avs, vs, h1, h2, us, h3, h4⟩ := res_ok hE hr hg1 hg2 r (lookV s.tm t :: acc) (a.tmps.getD t undef :: vacc) K (by
      simp only [List.reverse_cons]
      exact ARs_app ha ⟨_, _, rfl, hr.tm t, rfl⟩) h
    refine ⟨avs, vs, h1, h2, a.tmps.getD t undef :: us, by rw [h3]; simp, ?_⟩
    rw [List.mapM_cons]
    simp only [hg1, Sem.run_bind, Sem.run_pure, Result.andThen_ok, h4]
  | .cell x t :: r, acc, vacc, K, ha, h => by
    simp only [resStep] at h
    have hx := hr.tm x
    obtain ⟨A, hA⟩ := plain_addr (t := t) hx h
    obtain ⟨v, av, k1, k2, k3⟩ := load_ok (P := P) hr.heap (hE t) hx h
    obtain ⟨avs, vs, h1, h2, us, h3, h4⟩ := res_ok hE hr hg1 hg2 r (av :: acc) (v :: vacc) K (by
      simp only [List.reverse_cons]
      exact ARs_app ha ⟨_, _, rfl, k2, rfl⟩) k3
    refine ⟨avs, vs, h1, h2, v :: us, by rw [h3]; simp, ?_⟩
    rw [hA] at k1
    have k1' : (loadVar t A).run P w = .ok v w := by simpa [Instr.loadAt, Instr.sureAddr] using k1
    have hA' : (asAddr (a.tmps.getD x undef)).run P w = .ok A w := by rw [hA]; rfl
    rw [List.mapM_cons]
    simp only [hg2, Sem.run_bind, hA', Sem.run_pure, Result.andThen_ok, k1', h4]

theorem results_eq (fn : Func) (tmps : Array Value) : ∃ g : ResultVar → Sem Value, (∀ t, g (.tmp t) = pure (tmps.getD t undef)) ∧ (∀ x t, g (.cell x t) = do loadVar t (← asAddr (tmps.getD x undef))) ∧
    results fn tmps = (do let vs ← fn.results.mapM g; pure (if h : vs.size = 1 then vs[0] else .tuple vs)) := ⟨_, fun _ => rfl, fun _ _ => rfl, rfl⟩

theorem results_ok (hE : TabOk P E.T) (hr : Rel B w F μ s a) {fn : Func} {K : List AV → Option ρ} (h : resStep E s fn.results.toList [] K = some fin) :
    ∃ avs v, AR w F μ (oneOf avs) v ∧ K avs = some fin ∧ (results fn a.tmps).run P w = .ok v w := by
  obtain ⟨g, hg1, hg2, hg⟩ := results_eq fn a.tmps
  obtain ⟨avs, vs, h1, h2, us, h3, h4⟩ := res_ok hE hr hg1 hg2 fn.results.toList [] [] K rfl h
  simp only [List.reverse_nil, List.nil_append] at h3
  subst h3
  have hrun : (results fn a.tmps).run P w = .ok (if h : vs.toArray.size = 1 then vs.toArray[0] else .tuple vs.toArray) w := by
    rw [hg, Array.mapM_eq_mapM_toList]
    simp only [Sem.run_bind, Sem.run_map, h4, Result.andThen_ok, Sem.run_pure]
  have hl := ARs_len h1
  match avs, vs, h1, hl, hrun with
  | [x], [v], h1, _, hrun =>
    obtain ⟨u, ur, he, ha, _⟩ := h1
    cases he
    exact ⟨[x], v, ha, h2, by rw [hrun]; rfl⟩
  | [], [], h1, _, hrun => exact ⟨[], .tuple #[], ⟨[], rfl, rfl⟩, h2, by rw [hrun]; rfl⟩
  | x :: y :: r, u :: v :: q, h1, _, hrun => exact ⟨x :: y :: r, .tuple (u :: v :: q).toArray, ⟨_, rfl, h1⟩, h2, by rw [hrun]; simp⟩

theorem enumV_look : ∀ {args : List AV} {vs : List Value} {k t : Nat}, ARs w F μ args vs → (t < k → lookV (enumV args k) t = .und) ∧ ∀ j, t = k + j → AR w F μ (lookV (enumV args k) t) (vs.getD j undef)
  | [], vs, k, t, h => ⟨fun _ => rfl, fun _ _ => trivial⟩
  | x :: r, _, k, t, h => by
    obtain ⟨v, vr, rfl, h1, h2⟩ := h
    simp only [enumV]
    refine ⟨fun hlt => ?_, fun j hj => ?_⟩
    · rw [lookV_other _ _ (by omega)]
      exact (enumV_look (k := k + 1) (t := t) h2).1 (by omega)
    · cases j with
      | zero =>
        obtain rfl : t = k := by omega
        rw [lookV_same]; exact h1
      | succ j =>
        rw [lookV_other _ _ (by omega)]
        exact (enumV_look (k := k + 1) (t := t) h2).2 j (by omega)

/-- A function's run as its own summary. -/
def sumOf (E : Env) (ann : Nat → Option (List (Nat × Mode))) (pl : Nat → Option (List (Nat × Bool) × List Nat)) (fu : Nat) (fn : Func) : Summ :=
  fun ρ args hp K => aFun E ann pl fu fn args hp hp.length K

theorem fun_ok (hm : P.follows .mixedOrders = true) (hE : EnvOk P E) {f : Nat} {fn : Func} (hf : P.funcs[f]? = some fn) (hname : (fn.name == "runtime.NumGoroutine") = false)
    (ann : Nat → Option (List (Nat × Mode))) (pl : Nat → Option (List (Nat × Bool) × List Nat)) (fu : Nat) : SpecOk P f (sumOf E ann pl fu fn) := by
  intro ρ fin args hp K h w F μ vs hr ha
  unfold sumOf aFun at h
  split at h
  · cases h
  · rename_i c hb
    obtain ⟨hle, h⟩ := bif_none h
    have hle := Nat.le_of_ble_eq_true hle
    have hc : (callFunc f vs.toArray).run P w = .ok (.enter f vs.toArray) w := by
      have hname' : ¬ fn.name = "runtime.NumGoroutine" := by simpa using hname
      simp [callFunc, hf, hname', hb]
    unfold Does
    rw [hc]
    simp only
    have hvl := ARs_len ha
    refine calls_of_wp hf hb (run_ok (B := base w F μ hp) hm hE rfl c _ ⟨fn.ntmps, enumV args 0, hp, hp.length⟩ _ w F μ _ ⟨hr, fun t => ?_, by simp; omega, rfl, ?_⟩ h ?_)
    · have := (enumV_look (k := 0) (t := t) ha).2 t (by omega)
      rcases Nat.lt_or_ge t vs.length with ht | ht
      · rw [show ((vs.toArray ++ Array.replicate (fn.ntmps - vs.toArray.size) undef).getD t undef) = vs.getD t undef by
          rw [Array.getD_eq_getD_getElem?, Array.getElem?_append_left (by simpa using ht)]; simp]
        exact this
      · rw [show ((vs.toArray ++ Array.replicate (fn.ntmps - vs.toArray.size) undef).getD t undef) = vs.getD t undef by
          rw [Array.getD_eq_getD_getElem?, Array.getElem?_append_right (by simpa using ht), List.getD_eq_getElem?_getD, List.getElem?_eq_none ht]
          rw [Array.getElem?_replicate]; split <;> rfl]
        exact this
    · exact {
        size := Nat.le_refl _
        keep := fun _ _ _ => rfl
        fge := fun _ h => h
        fle := fun _ h => .inl h
        ole := fun id b h => .inl ⟨id, h⟩
        os := rfl
        tape := rfl
        output := rfl
        root := fun _ _ _ h => h }
    · intro e s' a' w' F' μ' hr' hk
      have key : (resStep E s' fn.results.toList [] fun vs =>
          match gather s'.hp 1000 (List.range hp.length ++ refs (oneOf vs)) [] with
          | none => none
          | some ord => K (ren (fun id => idx id ord 0) (oneOf vs)) (subHp s'.hp (fun id => idx id ord 0) ord 0) ord.length) = some fin →
          a'.defers = [] ∧ ∃ v, (results fn a'.tmps).run P w' = .ok v w' ∧ ∃ r hp' nx' F' μ', K r hp' nx' = some fin ∧ Rl w' F' μ' hp' nx' ∧ AR w' F' μ' r v ∧ Ext (base w F μ hp) w' F' μ' hp' := by
        intro hk
        obtain ⟨avs, v, h1, h2, h3⟩ := results_ok (P := P) hE.tab hr' hk
        refine ⟨hr'.df, v, h3, ?_⟩
        split at h2
        · cases h2
        · rename_i ord hg
          obtain ⟨hn, _, hin, hcl⟩ := gather_ok hg List.nodup_nil (fun id h => by cases h)
          exact ⟨_, _, _, F', subμ μ' ord, h2, sub_rl hr'.heap hn hcl, AR_ren' _ _ (fun id hi p hp => sub_m (hin id (List.mem_append.2 (.inr hi))) hp) h1, ext_sub hr'.ext (gather_roots hg)⟩
      cases e with
      | normal => exact key hk
      | exit id => cases hk
      | ret => exact key hk
end
end Go.Ai
