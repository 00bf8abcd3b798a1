/- Regions. -/
import Derived.Test.YtjjobkpflphpiaaGreatAiO
import Derived.OrdersHeld
set_option linter.unusedVariables false
set_option linter.unusedSimpArgs false
namespace Go.Ai
section
variable {P : Program} {ρ : Type} {fin : ρ} {B : Base}
variable {w : World} {F : Nat → Prop} {μ : Nat → Option Pl} {s : St} {a : Act} {Q : Exit → Act → World → Prop} {E : Env}

theorem rel_put (hr : Rel B w F μ s a) {d : Option Tmp} (hd : dstOk s.n d = true) {v : Value} {av : AV} (ha : AR w F μ av v) : Rel B w F μ (put s d av) (a.put d v) := by
  cases d with
  | none => exact hr
  | some d =>
    have hlt : d < a.tmps.size := by
      rw [hr.n]
      simp only [dstOk, Nat.blt] at hd
      exact Nat.le_of_ble_eq_true hd
    refine ⟨hr.heap, fun t => ?_, by simp [put, St.setT, Act.put, hr.n], hr.df, hr.ext⟩
    by_cases he : t = d
    · subst he
      simp only [put, St.setT, lookV_same, Act.put]
      simpa [hlt] using ha
    · simp only [put, St.setT, lookV_other _ _ he, Act.put]
      have := hr.tm t
      simpa [Array.getElem?_setIfInBounds_ne (Ne.symm he)] using this

theorem rel_set (hr : Rel B w F μ s a) {d : Nat} {v : AV} (h : lookV s.tm d = v) : Rel B w F μ (s.setT d v) a := by
  refine ⟨hr.heap, fun t => ?_, hr.n, hr.df, hr.ext⟩
  by_cases he : t = d
  · subst he
    simp only [St.setT, lookV_same]
    rw [← h]; exact hr.tm t
  · simp only [St.setT, lookV_other _ _ he]
    exact hr.tm t

theorem yield_ok (hr : Rel B w F μ s a) {ops : Array Oper} {j d : Nat} (hj : (ops.toList[j]?).bind (·.dst) = some d) {b : Bool} (h : lookV s.tm d = .bool b) : yielded ops a.tmps j = some b := by
  have hb := hr.tm d
  rw [h] at hb
  have hb' : a.tmps.getD d undef = .bool b := hb
  have : a.tmps[d]? = some (.bool b) := by
    rw [Array.getD_eq_getD_getElem?] at hb'
    cases hx : a.tmps[d]? with
    | none => rw [hx] at hb'; simp [undef] at hb'
    | some x => rw [hx] at hb'; simp at hb'; rw [hb']
  unfold yielded
  have hj' : (ops[j]?).bind (·.dst) = some d := by simpa using hj
  rw [hj']
  simp [this]

theorem wanted_none {ops : Array Oper} {o : Oper} (h : o.guard = none) : Region.wanted o (yielded ops a.tmps) = true := by simp [Region.wanted, h]
theorem wanted_some {ops : Array Oper} {o : Oper} {j d : Nat} {b want : Bool} (hr : Rel B w F μ s a) (hg : o.guard = some (j, want)) (hj : (ops.toList[j]?).bind (·.dst) = some d) (h : lookV s.tm d = .bool b) :
    Region.wanted o (yielded ops a.tmps) = (b == want) := by
  simp only [Region.wanted, hg, yield_ok hr hj h]
  cases b <;> cases want <;> rfl

theorem wanted_skip {ops : Array Oper} {o : Oper} {j d : Nat} {want : Bool} (hr : Rel B w F μ s a) (hg : o.guard = some (j, want)) (hj : (ops.toList[j]?).bind (·.dst) = some d) (h : lookV s.tm d = .tup []) :
    Region.wanted o (yielded ops a.tmps) = false := by
  have hb := hr.tm d
  rw [h] at hb
  obtain ⟨vs, hb, hvs⟩ := hb
  cases hvs
  have hj' : (ops[j]?).bind (·.dst) = some d := by simpa using hj
  have : yielded ops a.tmps j = none := by
    unfold yielded
    rw [hj']
    rw [Array.getD_eq_getD_getElem?] at hb
    cases hx : a.tmps[d]? with
    | none => simp [hx]
    | some x => rw [hx] at hb; simp at hb; subst hb; simp [hx]
  simp [Region.wanted, hg, this]

/-- How a guard goes. -/
theorem guard_cases {ops : Array Oper} {o : Oper} {A : St → Option ρ} {N : St → Option ρ} (hr : Rel B w F μ s a)
    (h : (match o.guard with
        | none => A s
        | some (j, want) =>
          (match (ops.toList[j]?).bind (·.dst) with
          | none => none
          | some d => (match lookV s.tm d with
            | .bool b =>
              bif b then
                (bif want then A (s.setT d (.bool true)) else N (s.setT d (.bool true)))
              else
                (bif want then N (s.setT d (.bool false)) else A (s.setT d (.bool false)))
            | .tup [] => N s
            | _ => none))) = some fin) :
    ∃ s1, Rel B w F μ s1 a ∧ s1.n = s.n ∧ s1.hp = s.hp ∧ s1.nx = s.nx ∧ ((Region.wanted o (yielded ops a.tmps) = true ∧ A s1 = some fin) ∨ (Region.wanted o (yielded ops a.tmps) = false ∧ N s1 = some fin)) := by
  split at h
  · rename_i hg
    exact ⟨s, hr, rfl, rfl, rfl, .inl ⟨wanted_none hg, h⟩⟩
  · rename_i j want hg
    split at h
    · cases h
    · rename_i d hd
      split at h
      · rename_i b hb
        have hw := wanted_some hr hg hd hb
        cases b <;> cases want
        · exact ⟨_, rel_set hr hb, rfl, rfl, rfl, .inl ⟨hw, h⟩⟩
        · exact ⟨_, rel_set hr hb, rfl, rfl, rfl, .inr ⟨hw, h⟩⟩
        · exact ⟨_, rel_set hr hb, rfl, rfl, rfl, .inr ⟨hw, h⟩⟩
        · exact ⟨_, rel_set hr hb, rfl, rfl, rfl, .inl ⟨hw, h⟩⟩
      · rename_i hb
        exact ⟨s, hr, rfl, rfl, rfl, .inr ⟨wanted_skip hr hg hd hb, h⟩⟩
      · cases h

theorem ops_ok (hE : EnvOk P E) {ops : Array Oper} {K : St → Option ρ} (hK : ∀ s' a' w' F' μ', Rel B w' F' μ' s' a' → K s' = some fin → Q .normal a' w') :
    ∀ (r : List Oper) (k : Nat) (s : St) (a : Act) (w : World) (F : Nat → Prop) (μ : Nat → Option Pl), (∀ j, r[j]? = ops[k + j]?) → Rel B w F μ s a →
      runOps E ops.toList r s K = some fin → wpOps P ops Q (List.range' k r.length) a w
  | [], k, s, a, w, F, μ, _, hr, h => hK _ _ _ _ _ hr h
  | o :: r, k, s, a, w, F, μ, hl, hr, h => by
    have h0 : ops[k]? = some o := by simpa using (hl 0).symm
    have hl' : ∀ j, r[j]? = ops[k + 1 + j]? := fun j => by have := hl (j + 1); simpa [Nat.add_assoc, Nat.add_comm 1 j] using this
    simp only [List.length_cons, List.range'_succ, wpOps, h0]
    simp only [runOps] at h
    obtain ⟨hd, h⟩ := bif_none h
    obtain ⟨s1, hr1, hn, -, -, hc⟩ := guard_cases (ops := ops) (o := o) (A := fun s => step E o s fun v s' => runOps E ops.toList r (put s' o.dst v) K) (N := fun s => runOps E ops.toList r (put s o.dst (.tup [])) K) hr h
    rw [← hn] at hd
    rcases hc with ⟨hw, h⟩ | ⟨hw, h⟩
    · rw [if_pos hw]
      refine .inl (step_ok hr1 hE ?_ h)
      intro v av s' w' F' μ' hr' ha hk
      have hn' : s'.n = s1.n := by rw [← hr'.n, hr1.n]
      exact ops_ok hE hK r (k + 1) _ _ _ _ _ hl' (rel_put hr' (by rw [hn']; exact hd) ha) hk
    · rw [if_neg (by simp [hw])]
      exact ops_ok hE hK r (k + 1) _ _ _ _ _ hl' (rel_put (av := .tup []) hr1 hd ⟨[], rfl, rfl⟩) h

theorem region_ok (hE : EnvOk P E) {id : Nat} {ops : Array Oper} {K : St → Option ρ} (hK : ∀ s' a' w' F' μ', Rel B w' F' μ' s' a' → K s' = some fin → Q .normal a' w')
    (hr : Rel B w F μ s a) (h : runOps E ops.toList ops.toList s K = some fin) : (Code.region id ops false).wp P Q a w := by
  refine wp_region ?_
  have := ops_ok hE hK ops.toList 0 s a w F μ (by simp) hr h
  rw [List.range_eq_range']
  simpa using this

/-! Regions that draw. -/

/-- What holds of the stable part, seen from the region's beginning. -/
structure StabOk (B : Base) (stab : List (Nat × AO)) : Prop where
  obj : ∀ id, ObjR B.w B.F B.μ0 id (lookO stab id)
  blk : ∀ id p b, lookO stab id ≠ .gone → B.μ0 id = some p → p.blk = some b → b < B.w.heap.size ∧ ¬ B.O b
  set : ∀ id p, B.μ0 id = some p → id < B.n0
  fin : ∀ b, B.F b → b < B.w.heap.size ∧ ¬ B.O b

/-- Nothing has turned that nobody may turn. -/
def Keeps (B : Base) (w' : World) : Prop := ∀ b, b < B.w.heap.size → ¬ B.O b → w'.heap[b]? = B.w.heap[b]?

theorem keeps (hr : Rel B w F μ s a) : Keeps B w := hr.ext.keep

theorem load_stab {stab : List (Nat × AO)} (hs : StabOk B stab) (hr : Rel B w F μ s a) {t : Nat} {ti : TI} (ht : TyOk P t ti) {x : AV} {vx : Value} {cl : Bool} (hcl : cl = true → F = B.F) {K : AV → Option ρ} (hx : AR w F μ x vx)
    (h : (bif isCp x && !cl then none else loadStep ti stab x K) = some fin) : GotIn P (Keeps B) w F μ K fin (Instr.loadAt t vx) := by
  obtain ⟨hb, h⟩ := bif_none' h
  have hst : Stays B.F B.w w := fun b hb => keeps hr b (hs.fin b hb).1 (hs.fin b hb).2
  have hμ : ∀ id p, B.μ0 id = some p → μ id = some p := fun id p hp => hr.ext.root id (hs.set id p hp) p hp
  have hobj : ∀ id, ObjR w F μ id (lookO stab id) := fun id =>
    ObjR_mono hr.ext.fge hst hμ (fun p b hp hpb hm => by
      obtain ⟨k1, k2⟩ := hs.blk id p b (fun e => by rw [e] at hm; cases hm) hp hpb
      exact keeps hr b k1 k2) (hs.obj id)
  refine load_all hobj ht hx h (Keeps B) (keeps hr) (fun hcp w2 hw2 => ?_) (fun w2 hw2 id p b hne hp hpb => ?_)
  · obtain ⟨cs, rfl⟩ := hcp
    have hclt : cl = true := by cases cl <;> simp_all [isCp]
    intro b hF
    rw [hcl hclt] at hF
    obtain ⟨k1, k2⟩ := hs.fin b hF
    rw [hw2 b k1 k2, keeps hr b k1 k2]
  · have h0 : B.μ0 id = some p := by
      have := hs.obj id
      have : ∃ q, B.μ0 id = some q := by
        revert this
        cases hl : lookO stab id <;> intro this
        · exact absurd hl hne
        all_goals (obtain ⟨q, hq, _⟩ := this; exact ⟨q, hq⟩)
      obtain ⟨q, hq⟩ := this
      have := hμ id q hq
      rw [hp] at this
      rw [hq, this]
    obtain ⟨k1, k2⟩ := hs.blk id p b hne h0 hpb
    rw [hw2 b k1 k2, keeps hr b k1 k2]

/-- What is taken first. -/
theorem first_ok {stab : List (Nat × AO)} (hs : StabOk B stab) (hE : EnvOk P E) (hr : Rel B w F μ s a) {o : Oper} {cl : Bool} (hcl : cl = true → F = B.F) {K : AV → St → Option ρ} (h : stepP E stab cl true o s K = some fin) :
    ∃ v F' s' av, (∀ w2, Keeps B w2 → (execOp a.eval o).run P w2 = .ok (.value v) w2) ∧ Rel B w F' μ s' a ∧ AR w F' μ av v ∧ K av s' = some fin ∧ (growsOp s o.op = false → F' = F) := by
  simp only [stepP, cond_true] at h
  split at h
  · rename_i t x ho
    obtain ⟨v, av, h1, h2, h3⟩ := load_stab (P := P) hs hr (hE.tab t) hcl (ev_ok hr.tm x) h
    exact ⟨v, F, s, av, fun w2 hw2 => by simp only [execOp, ho]; simp [h1 w2 hw2], hr, h2, h3, fun _ => rfl⟩
  · rename_i t d x ho
    have other : (bif pureOp E o.op then step E o s K else none) = some fin → ∃ v F' s' av, (∀ w2, Keeps B w2 → (execOp a.eval o).run P w2 = .ok (.value v) w2) ∧ Rel B w F' μ s' a ∧ AR w F' μ av v ∧ K av s' = some fin ∧ (growsOp s o.op = false → F' = F) := by
      intro h
      obtain ⟨hp, h⟩ := bif_none h
      obtain ⟨v, s', av, h1, h2, h3, h4⟩ := pure_ok hr hE.tab hp (by rw [ho]; rfl) h
      exact ⟨v, F, s', av, fun w2 _ => h1 w2, h2, h3, h4, fun _ => rfl⟩
    split at h
    · rename_i xs e hxe hk1 hk2
      split at h
      · rename_i hk3
        obtain ⟨hclt, h⟩ := bif_none h
        have hFe := hcl hclt
        have hx := ev_ok hr.tm x
        rw [hxe] at hx
        have hx' := hx
        obtain ⟨A, c, hv, _, _⟩ := hx'
        have hv : a.eval x = .slice A (List.length xs) c := (List.cons.inj hv).1
        refine ⟨.string ⟨List.toArray xs⟩, F, s, .str xs, fun w2 hw2 => ?_, hr, rfl, h, fun _ => rfl⟩
        have hst : Stays F w w2 := fun b hb => by
          rw [hFe] at hb
          obtain ⟨k1, k2⟩ := hs.fin b hb
          rw [hw2 b k1 k2, keeps hr b k1 k2]
        have hx2 : Rp w2 F (.list .byte) xs [a.eval x] := Rp_mono (fun _ h => h) hst hx
        rw [hv] at hx2
        have hrun := bytes_conv (P := P) xs (src_slice hx2)
        have h1 := (hE.tab t).kslice _ hk1
        have h2 := (hE.tab d).kstr hk2
        have h3 := (hE.tab e).kint _ hk3
        simp only [execOp, ho, hv]
        simp [convert, underlying, h1, h2, h3]
        exact congrArg (fun r => r.andThen fun a w' => Result.ok (Next.value a) w') hrun
      · cases h
    · exact other h
  · obtain ⟨hp, h⟩ := bif_none h
    cases hsl : isSlice o.op
    · obtain ⟨v, s', av, h1, h2, h3, h4⟩ := pure_ok hr hE.tab hp hsl h
      exact ⟨v, F, s', av, fun w2 _ => h1 w2, h2, h3, h4, fun _ => rfl⟩
    · obtain ⟨F', ⟨v, s', av, h1, h2, h3, h4⟩, h5⟩ := pure_ok' hr hE.tab hp h
      exact ⟨v, F', s', av, fun w2 _ => h1 w2, h2, h3, h4, h5⟩

theorem plan_ok {stab : List (Nat × AO)} (hs : StabOk B stab) (hE : EnvOk P E) {ops : Array Oper} (hsel : Region.noSelect ops = true) (hQ : ∀ c a w, ¬ Q (.panic c) a w)
    {K : St → Option ρ} (hK : ∀ s' a' w' F' μ', Rel B w' F' μ' s' a' → K s' = some fin → Q .normal a' w') :
    ∀ (plan : List (Nat × Bool)) (listed : Array Bool) (cl : Bool) (s : St) (a : Act) (w : World) (F : Nat → Prop) (μ : Nat → Option Pl), Rel B w F μ s a → (cl = true → F = B.F) → planB ops plan listed = true →
      runPlan E ops.toList stab plan cl s K = some fin → wpAnyH P .any ops Q (Keeps B) plan.length listed a w
  | [], listed, cl, s, a, w, F, μ, hr, hcl, hB, h => ⟨by simpa [planB] using hB, hK _ _ _ _ _ hr h⟩
  | (i, p) :: r, listed, cl, s, a, w, F, μ, hr, hcl, hB, h => by
    simp only [planB, Bool.and_eq_true] at hB
    obtain ⟨hB1, hB2⟩ := hB
    simp only [runPlan] at h
    split at h
    · cases h
    · rename_i o ho
      have h0 : ops[i]? = some o := by simpa using ho
      obtain ⟨hd, h⟩ := bif_none h
      obtain ⟨s1, hr1, hn, hhp, -, hc⟩ := guard_cases (ops := ops) (o := o) (A := fun s => stepP E stab cl p o s fun v s' => runPlan E ops.toList stab r (cl && p && !growsOp s o.op) (put s' o.dst v) K) (N := fun s => runPlan E ops.toList stab r cl (put s o.dst (.tup [])) K) hr h
      rw [← hn] at hd
      cases p
      · -- the only one
        simp only [cond_false, beq_iff_eq] at hB1
        refine wpAnyH_all hB1 (by simp) (fun j hj => ?_)
        obtain rfl : j = i := by simpa using hj
        unfold wpOp
        simp only [h0]
        rcases hc with ⟨hw, h⟩ | ⟨hw, h⟩
        · rw [if_pos hw]
          simp only [stepP, cond_false] at h
          refine .inl (step_ok hr1 hE ?_ h)
          intro v av s' w' F' μ' hr' ha hk
          have hn' : s'.n = s1.n := by rw [← hr'.n, hr1.n]
          exact ⟨keeps hr', plan_ok hs hE hsel hQ hK r _ _ _ _ _ _ _ (rel_put hr' (by rw [hn']; exact hd) ha) (by simp) hB2 hk⟩
        · rw [if_neg (by simp [hw])]
          exact ⟨keeps hr1, plan_ok hs hE hsel hQ hK r _ _ _ _ _ _ _ (rel_put (av := .tup []) hr1 hd ⟨[], rfl, rfl⟩) hcl hB2 h⟩
      · simp only [cond_true, Bool.and_eq_true] at hB1
        rcases hc with ⟨hw, h⟩ | ⟨hw, h⟩
        · obtain ⟨v, F', s', av, h1, h2, h3, h4, h5⟩ := first_ok hs hE hr1 hcl h
          refine wpAnyH_take (v := v) h0 hsel hB1.2 hB1.1 (fun c a w hq => absurd hq (hQ c _ w)) (.inl ⟨hw, h1⟩) (keeps hr1) ?_
          have hn' : s'.n = s1.n := by rw [← h2.n, hr1.n]
          exact plan_ok hs hE hsel hQ hK r _ _ _ _ _ _ _ (rel_put h2 (by rw [hn']; exact hd) h3) (fun e => by
            simp only [Bool.and_true, Bool.and_eq_true, Bool.not_eq_true'] at e
            rw [h5 e.2]; exact hcl e.1) hB2 h4
        · refine wpAnyH_take (v := undef) h0 hsel hB1.2 hB1.1 (fun c a w hq => absurd hq (hQ c _ w)) (.inr ⟨hw, rfl⟩) (keeps hr1) ?_
          exact plan_ok hs hE hsel hQ hK r _ _ _ _ _ _ _ (rel_put (av := .tup []) hr1 hd ⟨[], rfl, rfl⟩) hcl hB2 h
end
end Go.Ai
