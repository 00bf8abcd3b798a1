/- Regions that draw: what is hidden comes back. -/
import Derived.Test.YtjjobkpflphpiaaGreatAiP
set_option linter.unusedVariables false
set_option linter.unusedSimpArgs false
namespace Go.Ai
section
variable {P : Program} {ρ : Type} {fin : ρ} {B : Base}
variable {w : World} {F : Nat → Prop} {μ : Nat → Option Pl} {s : St} {a : Act} {Q : Exit → Act → World → Prop} {E : Env}

def frozen : AO → Bool
  | .fbox _ => true
  | .frow _ _ => true
  | _ => false

theorem lookO_frz : ∀ {hp : List (Nat × AO)} {id : Nat}, lookO (frz hp) id = bif frozen (lookO hp id) then lookO hp id else .gone
  | [], id => rfl
  | (i, o) :: r, id => by
    by_cases he : id = i
    · subst he
      cases o <;> simp [frz, lookO_same, frozen]
    · have h1 : lookO (frz ((i, o) :: r)) id = lookO (frz r) id := by
        cases o <;> (simp only [frz]; rw [lookO_other _ _ he])
      rw [h1, lookO_other _ _ he, lookO_frz]

theorem lookO_backs {hid hp : List (Nat × AO)} {id : Nat} (h : id ∉ hid.map (·.1)) : lookO (backs hid hp) id = lookO hp id := by
  induction hid with
  | nil => rfl
  | cons p r ih =>
    simp only [List.map_cons, List.mem_cons, not_or] at h
    simp only [backs]
    rw [lookO_other _ _ h.1, ih h.2]

theorem lookO_backs' {hid hp hp0 : List (Nat × AO)} {id : Nat} (hg : ∀ p ∈ hid, lookO hp0 p.1 = p.2) (h : id ∈ hid.map (·.1)) : lookO (backs hid hp) id = lookO hp0 id := by
  induction hid with
  | nil => cases h
  | cons p r ih =>
    simp only [backs]
    by_cases he : id = p.1
    · subst he; rw [lookO_same, hg p (by simp)]
    · simp only [List.map_cons, List.mem_cons] at h
      rw [lookO_other _ _ he, ih (fun q hq => hg q (by simp [hq])) (h.resolve_left he)]

theorem lookO_kills {hid hp : List (Nat × AO)} {id : Nat} : lookO (kills hid hp) id = if id ∈ hid.map (·.1) then .gone else lookO hp id := by
  induction hid with
  | nil => simp [kills]
  | cons p r ih =>
    simp only [kills]
    by_cases he : id = p.1
    · subst he; rw [lookO_same]; simp
    · rw [lookO_other _ _ he, ih]
      simp only [List.map_cons, List.mem_cons, he, false_or]

def Good (hp : List (Nat × AO)) (p : Nat × AO) : Prop := lookO hp p.1 = p.2 ∧ p.2.mine = true

theorem hideL_good {tm : List (Nat × AV)} {hp : List (Nat × AO)} : ∀ {ts : List Nat} {acc : List (Nat × AO)}, (∀ p ∈ acc, Good hp p) → ∀ p ∈ hideL tm hp ts acc, Good hp p
  | [], acc, h => h
  | t :: r, acc, h => by
    simp only [hideL]
    split
    · split
      · rename_i cs hl
        cases hm : memN _ (acc.map (·.1))
        · refine hideL_good (fun p hp => ?_)
          cases hp with
          | head => exact ⟨hl, rfl⟩
          | tail _ hp => exact h p hp
        · exact hideL_good h
      · exact hideL_good h
    · split
      · rename_i t xs hl
        cases hm : memN _ (acc.map (·.1))
        · refine hideL_good (fun p hp => ?_)
          cases hp with
          | head => exact ⟨hl, rfl⟩
          | tail _ hp => exact h p hp
        · exact hideL_good h
      · exact hideL_good h
    · exact hideL_good h

/-- The base of a region. -/
def base2 (w : World) (F : Nat → Prop) (μ : Nat → Option Pl) (hp : List (Nat × AO)) (nx : Nat) : Base := ⟨w, F, fun b => ∃ id, Owns μ hp id b, nx, μ⟩

theorem kills_rl {hp : List (Nat × AO)} {nx : Nat} : ∀ {hid : List (Nat × AO)}, Rl w F μ hp nx → Rl w F μ (kills hid hp) nx
  | [], h => h
  | p :: r, h => (kills_rl (hid := r) h).kill p.1

theorem Rl.world {hp : List (Nat × AO)} {nx : Nat} {w' : World} (h : Rl w F μ hp nx) (hw : w'.heap = w.heap) : Rl w' F μ hp nx where
  obj id := ObjR_mono (fun _ h => h) (fun b _ => by rw [hw]) (fun _ _ h => h) (fun _ _ _ _ _ => by rw [hw]) (h.obj id)
  one := h.one
  dis := h.dis
  fsz b hb := by rw [hw]; exact h.fsz b hb
  fresh := h.fresh
  unset := h.unset

theorem kills_owns {hid hp : List (Nat × AO)} {id b : Nat} (h : Owns μ (kills hid hp) id b) : id ∉ hid.map (·.1) ∧ Owns μ hp id b := by
  obtain ⟨m, q⟩ := h
  rw [lookO_kills] at m
  split at m
  · cases m
  · rename_i hn; exact ⟨hn, m, q⟩

variable {w0 : World} {hid : List (Nat × AO)}

theorem hide_rel (hr : Rel B w F μ s a) (hw : w0.heap = w.heap) : Rel (base2 w0 F μ (kills hid s.hp) s.nx) w0 F μ ⟨s.n, s.tm, kills hid s.hp, s.nx⟩ a where
  heap := (kills_rl hr.heap).world hw
  tm t := AR_mono (fun _ h => h) (fun b _ => by rw [hw]) (fun _ _ h => h) _ _ (hr.tm t)
  n := hr.n
  df := hr.df
  ext := {
    size := Nat.le_refl _
    keep := fun _ _ _ => rfl
    fge := fun _ h => h
    fle := fun _ h => .inl h
    ole := fun id b h => .inl ⟨id, h⟩
    os := rfl
    tape := rfl
    output := rfl
    root := fun _ _ _ h => h }

theorem hide_stab (hr : Rel B w F μ s a) (hw : w0.heap = w.heap) (hg : ∀ p ∈ hid, Good s.hp p) : StabOk (base2 w0 F μ (kills hid s.hp) s.nx) (backs hid (frz s.hp)) where
  obj id := by
    have hr0 := hr.heap.world hw
    show ObjR w0 F μ id _
    by_cases h : id ∈ hid.map (·.1)
    · rw [lookO_backs' (fun p hp => (hg p hp).1) h]; exact hr0.obj id
    · rw [lookO_backs h, lookO_frz]
      cases hf : frozen (lookO s.hp id)
      · trivial
      · exact hr0.obj id
  blk id p b hne hp hb := by
    have hr0 := hr.heap.world hw
    show b < w0.heap.size ∧ ¬ ∃ id, Owns μ (kills hid s.hp) id b
    by_cases h : id ∈ hid.map (·.1)
    · obtain ⟨q, hq, rfl⟩ := List.mem_map.1 h
      have ho : Owns μ s.hp q.1 b := ⟨by rw [(hg q hq).1]; exact (hg q hq).2, p, hp, hb⟩
      refine ⟨Owns_heap hr0 ho, ?_⟩
      rintro ⟨id', h'⟩
      obtain ⟨k1, k2⟩ := kills_owns h'
      exact k1 (hr.heap.one _ _ _ ho k2 ▸ h)
    · rw [lookO_backs h, lookO_frz] at hne
      have hF : F b := by
        have := hr.heap.obj id
        revert this hne
        cases lookO s.hp id <;> intro hne this
        case fbox cs => obtain ⟨q, hq, _, hf⟩ := this; rw [show μ id = some p from hp] at hq; cases hq; exact hf b hb
        case frow t xs => obtain ⟨q, hq, _, hf⟩ := this; rw [show μ id = some p from hp] at hq; cases hq; exact hf b hb
        all_goals exact absurd rfl hne
      refine ⟨hr0.fsz b hF, ?_⟩
      rintro ⟨id', h'⟩
      exact hr.heap.dis _ _ (kills_owns h').2 hF
  set id p hp := by
    show id < s.nx
    rcases Nat.lt_or_ge id s.nx with h | h
    · exact h
    · have := hr.heap.unset id h; rw [show μ id = some p from hp] at this; cases this
  fin b hF := by
    refine ⟨(hr.heap.world hw).fsz b hF, ?_⟩
    rintro ⟨id', h'⟩
    exact hr.heap.dis _ _ (kills_owns h').2 hF

theorem hide_back (hr : Rel B w F μ s a) (hw : w0.heap = w.heap) (h1 : w0.os = w.os) (h2 : w0.tape = w.tape) (h3 : w0.output = w.output) (hg : ∀ p ∈ hid, Good s.hp p)
    {s' : St} {a' : Act} {w' : World} {F' : Nat → Prop} {μ' : Nat → Option Pl} (hr' : Rel (base2 w0 F μ (kills hid s.hp) s.nx) w' F' μ' s' a') : Rel B w' F' μ' ⟨s'.n, s'.tm, backs hid s'.hp, s'.nx⟩ a' := by
  have hr0 := hr.heap.world hw
  have hst := hide_stab (w0 := w0) hr hw hg
  have hmono : ∀ id p, μ id = some p → μ' id = some p := fun id p hp => hr'.ext.root id (hst.set id p hp) p hp
  have hin : ∀ id, id ∈ hid.map (·.1) → lookO (backs hid s'.hp) id = lookO s.hp id := fun id h => lookO_backs' (fun p hp => (hg p hp).1) h
  have hmine : ∀ id, id ∈ hid.map (·.1) → (lookO s.hp id).mine = true := fun id h => by
    obtain ⟨q, hq, rfl⟩ := List.mem_map.1 h
    rw [(hg q hq).1]; exact (hg q hq).2
  have hset : ∀ id, id ∈ hid.map (·.1) → ∃ p, μ id = some p := fun id h => by
    have h1 := hmine id h
    have h2 := hr.heap.obj id
    revert h1 h2
    cases lookO s.hp id <;> intro h1 h2
    case box cs => obtain ⟨p, hp, _⟩ := h2; exact ⟨p, hp⟩
    case row t xs => obtain ⟨p, hp, _⟩ := h2; exact ⟨p, hp⟩
    all_goals cases h1
  have howns : ∀ id b, Owns μ' (backs hid s'.hp) id b → (id ∈ hid.map (·.1) ∧ Owns μ s.hp id b) ∨ (id ∉ hid.map (·.1) ∧ Owns μ' s'.hp id b) := by
    rintro id b ⟨m, p, hp, hb⟩
    by_cases h : id ∈ hid.map (·.1)
    · obtain ⟨q, hq⟩ := hset id h
      rw [hmono id q hq] at hp; cases hp
      exact .inl ⟨h, hmine id h, p, hq, hb⟩
    · rw [lookO_backs h] at m
      exact .inr ⟨h, m, p, hp, hb⟩
  have hblk : ∀ id b, id ∈ hid.map (·.1) → Owns μ s.hp id b → b < w0.heap.size ∧ ¬ ∃ id, Owns μ (kills hid s.hp) id b := by
    rintro id b h ⟨m, p, hp, hb⟩
    exact hst.blk id p b (by
      rw [lookO_backs' (fun p hp => (hg p hp).1) h]
      intro e; rw [e] at m; cases m) hp hb
  have hole : ∀ id b, Owns μ' s'.hp id b → (∃ id, Owns μ s.hp id b) ∨ w0.heap.size ≤ b := fun id b h => by
    rcases hr'.ext.ole id b h with ⟨i, h⟩ | h
    · exact .inl ⟨i, (kills_owns h).2⟩
    · exact .inr h
  have hsz : w0.heap.size = w.heap.size := by rw [hw]
  have hstF : Stays F w w' := fun b hF => by
    rw [← hw]
    exact keeps hr' b (hst.fin b hF).1 (hst.fin b hF).2
  refine ⟨⟨?_, ?_, ?_, hr'.heap.fsz, ?_, hr'.heap.unset⟩, hr'.tm, hr'.n, hr'.df, ?_⟩
  · intro id
    show ObjR w' F' μ' id (lookO (backs hid s'.hp) id)
    by_cases h : id ∈ hid.map (·.1)
    · rw [hin id h]
      refine ObjR_mono hr'.ext.fge hstF hmono (fun p b hp hb m => ?_) (hr.heap.obj id)
      obtain ⟨k1, k2⟩ := hblk id b h ⟨m, p, hp, hb⟩
      rw [← hw]
      exact keeps hr' b k1 k2
    · rw [lookO_backs h]; exact hr'.heap.obj id
  · intro id id' b o1 o2
    rcases howns id b o1 with ⟨k1, c1⟩ | ⟨k1, c1⟩ <;> rcases howns id' b o2 with ⟨k2, c2⟩ | ⟨k2, c2⟩
    · exact hr.heap.one _ _ _ c1 c2
    · obtain ⟨j1, j2⟩ := hblk id b k1 c1
      rcases hr'.ext.ole id' b c2 with h | h
      · exact absurd h j2
      · have : w0.heap.size ≤ b := h
        omega
    · obtain ⟨j1, j2⟩ := hblk id' b k2 c2
      rcases hr'.ext.ole id b c1 with h | h
      · exact absurd h j2
      · have : w0.heap.size ≤ b := h
        omega
    · exact hr'.heap.one _ _ _ c1 c2
  · intro id b o1
    rcases howns id b o1 with ⟨k1, c1⟩ | ⟨k1, c1⟩
    · intro hF
      obtain ⟨j1, j2⟩ := hblk id b k1 c1
      rcases hr'.ext.fle b hF with h | h | h
      · exact hr.heap.dis _ _ c1 h
      · exact j2 h
      · have : w0.heap.size ≤ b := h
        omega
    · exact hr'.heap.dis _ _ c1
  · intro id hid'
    show lookO (backs hid s'.hp) id = .gone
    by_cases h : id ∈ hid.map (·.1)
    · obtain ⟨q, hq⟩ := hset id h
      have := hr'.heap.unset id hid'
      rw [hmono id q hq] at this; cases this
    · rw [lookO_backs h]; exact hr'.heap.fresh id hid'
  · exact {
      size := by
        have : w0.heap.size ≤ w'.heap.size := hr'.ext.size
        rw [hsz] at this
        exact Nat.le_trans hr.ext.size this
      keep := fun b c1 c2 => by
        rw [← hr.ext.keep b c1 c2, ← hw]
        refine keeps hr' b ?_ ?_
        · show b < w0.heap.size
          rw [hsz]; exact Nat.lt_of_lt_of_le c1 hr.ext.size
        · rintro ⟨i, h⟩
          rcases hr.ext.ole i b (kills_owns h).2 with h | h
          · exact c2 h
          · omega
      fge := fun b h => hr'.ext.fge b (hr.ext.fge b h)
      fle := fun b h => by
        rcases hr'.ext.fle b h with h | ⟨i, h⟩ | h
        · exact hr.ext.fle b h
        · exact .inr (hr.ext.ole i b (kills_owns h).2)
        · have : w0.heap.size ≤ b := h
          rw [hsz] at this
          exact .inr (.inr (Nat.le_trans hr.ext.size this))
      ole := fun id b h => by
        rcases howns id b h with ⟨k1, c1⟩ | ⟨k1, c1⟩
        · exact hr.ext.ole id b c1
        · rcases hole id b c1 with ⟨i, h⟩ | h
          · exact hr.ext.ole i b h
          · rw [hsz] at h
            exact .inr (Nat.le_trans hr.ext.size h)
      os := by have := hr'.ext.os; exact this.trans (h1.trans hr.ext.os)
      tape := by have := hr'.ext.tape; exact this.trans (h2.trans hr.ext.tape)
      output := by have := hr'.ext.output; exact this.trans (h3.trans hr.ext.output)
      root := fun k hk p hp => hmono k p (hr.ext.root k hk p hp) }

theorem draw_ok (hm : P.follows .mixedOrders = true) (hE : EnvOk P E) {id : Nat} {ops : Array Oper} {plan : List (Nat × Bool)} {hts : List Nat} {K : St → Option ρ} (hK : ∀ s' a' w' F' μ', Rel B w' F' μ' s' a' → K s' = some fin → Q .normal a' w')
    (hr : Rel B w F μ s a) (hsel : Region.noSelect ops = true) (hB : planB ops plan (Array.replicate ops.size false) = true) (hlen : plan.length = ops.size)
    (h : runPlan E ops.toList (backs (hideL s.tm s.hp hts []) (frz s.hp)) plan true ⟨s.n, s.tm, kills (hideL s.tm s.hp hts []) s.hp, s.nx⟩ (fun s' => K ⟨s'.n, s'.tm, backs (hideL s.tm s.hp hts []) s'.hp, s'.nx⟩) = some fin) :
    (Code.region id ops true).wp P Q a w := by
  generalize hh : hideL s.tm s.hp hts [] = hid at h
  have hg : ∀ p ∈ hid, Good s.hp p := by rw [← hh]; exact hideL_good (fun p hp => by cases hp)
  let Q' : Exit → Act → World → Prop := fun e a w => e = .normal ∧ Q e a w
  suffices hs : (Code.region id ops true).wp P Q' a w from wp_mono hs (fun e a w hq => hq.2)
  let w0 : World := { w with drawn := w.drawn + 1 }
  refine wp_region_any hm (wpAny_of_held (S := Keeps (base2 w0 F μ (kills hid s.hp) s.nx)) _ _ _ _ ?_)
  rw [← hlen]
  have := plan_ok (Q := Q') (hide_stab (w0 := w0) hr rfl hg) hE hsel (fun c a w hq => by cases hq.1) (K := fun s' => K ⟨s'.n, s'.tm, backs hid s'.hp, s'.nx⟩)
    (fun s' a' w' F' μ' hr' hk => ⟨rfl, hK _ _ _ _ _ (hide_back (w0 := w0) hr rfl rfl rfl rfl hg hr') hk⟩) plan (Array.replicate ops.size false) true _ a w0 F μ (hide_rel hr rfl) (fun _ => rfl) hB h
  rw [hlen] at this ⊢
  exact this
end
end Go.Ai
