/- Summaries: other ones from given ones. -/
import Derived.Test.YtjjobkpflphpiaaGreatAiU
set_option linter.unusedVariables false
set_option linter.unusedSimpArgs false
namespace Go.Ai

theorem SpecOk.of_le {P : Program} {f : Nat} {S S' : Summ} (h : SpecOk P f S) (hle : ∀ (ρ : Type) (fin : ρ) args hp K, S' ρ args hp K = some fin → S ρ args hp K = some fin) : SpecOk P f S' :=
  fun ρ fin args hp K hk => h ρ fin args hp K (hle ρ fin args hp K hk)

theorem noS_ok (P : Program) (f : Nat) : SpecOk P f noS := fun _ _ _ _ _ h => by cases h

/-- Summaries by numbers. -/
def lookS : List (Nat × Summ) → Nat → Summ
  | [], _ => noS
  | (k, S) :: r, n => bif Nat.beq k n then S else lookS r n

theorem lookS_ok {P : Program} : ∀ {l : List (Nat × Summ)}, (∀ p ∈ l, SpecOk P p.1 p.2) → ∀ f, SpecOk P f (lookS l f)
  | [], _, f => noS_ok P f
  | (k, S) :: r, h, f => by
    simp only [lookS]
    cases hb : Nat.beq k f
    · exact lookS_ok (fun p hp => h p (by simp [hp])) f
    · have := Nat.eq_of_beq_eq_true hb
      subst this
      exact h (k, S) (by simp)

/-- The arguments in their modes. -/
def normA : List Mode → List AV → St → Option (List AV × St)
  | [], [], s => some ([], s)
  | m :: ms, v :: vs, s =>
    match normV s m v with
    | none => none
    | some (v', s1) => (match normA ms vs s1 with
      | none => none
      | some (r, s2) => some (v' :: r, s2))
  | _, _, _ => none

def adapt (ma : List Mode) (mr : Mode) (S : Summ) : Summ := fun ρ args hp K =>
  match normA ma args ⟨0, [], hp, hp.length⟩ with
  | none => none
  | some (args', s1) => callStep ⟨fun _ => noTI, fun _ => S⟩ 0 args' s1 fun r s2 =>
    match normV s2 mr r with
    | none => none
    | some (r', s3) =>
      match gather s3.hp 1000 (List.range hp.length ++ refs r') [] with
      | none => none
      | some ord => K (ren (fun id => idx id ord 0) r') (subHp s3.hp (fun id => idx id ord 0) ord 0) ord.length

section
variable {P : Program} {ρ : Type} {fin : ρ} {B : Base}
variable {w : World} {F : Nat → Prop} {μ : Nat → Option Pl} {s : St} {a : Act}

theorem base_rel {hp : List (Nat × AO)} (h : Rl w F μ hp hp.length) : Rel (base w F μ hp) w F μ ⟨0, [], hp, hp.length⟩ ⟨#[], []⟩ where
  heap := h
  tm _ := trivial
  n := rfl
  df := rfl
  ext := {
    size := Nat.le_refl _
    keep := fun _ _ _ => rfl
    fge := fun _ h => h
    fle := fun _ h => .inl h
    ole := fun id b h => .inl ⟨id, h⟩
    os := rfl
    tape := rfl
    output := rfl
    root := fun _ _ _ h => h }

theorem normA_ok : ∀ {ms : List Mode} {vs vs' : List AV} {s s' : St} {F : Nat → Prop} {μ : Nat → Option Pl} {us : List Value}, Rel B w F μ s a → ARs w F μ vs us → normA ms vs s = some (vs', s') →
    ∃ F' μ', Rel B w F' μ' s' a ∧ ARs w F' μ' vs' us ∧ (∀ b, F b → F' b) ∧ (∀ id p, μ id = some p → μ' id = some p)
  | [], [], vs', s, s', F, μ, us, hr, ha, h => by
    simp only [normA] at h; cases h
    exact ⟨F, μ, hr, ha, fun _ h => h, fun _ _ h => h⟩
  | m :: ms, v :: vs, vs', s, s', F, μ, us, hr, ha, h => by
    obtain ⟨u, ur, rfl, h1, h2⟩ := ha
    simp only [normA] at h
    split at h
    · cases h
    · rename_i v' s1 hv
      split at h
      · cases h
      · rename_i r s2 hn
        cases h
        obtain ⟨F1, μ1, k1, k2, k3, k4⟩ := normV_ok hr h1 hv
        obtain ⟨F2, μ2, j1, j2, j3, j4⟩ := normA_ok k1 (ARs_mono k3 (Stays.refl _ _) k4 _ _ h2) hn
        exact ⟨F2, μ2, j1, ⟨u, ur, rfl, AR_mono j3 (Stays.refl _ _) j4 _ _ k2, j2⟩, fun b hb => j3 b (k3 b hb), fun id p hp => j4 id p (k4 id p hp)⟩
  | [], _ :: _, _, _, _, _, _, _, _, _, h => by simp [normA] at h
  | _ :: _, [], _, _, _, _, _, _, _, _, h => by simp [normA] at h

theorem adapt_ok {f : Nat} {S : Summ} (hS : SpecOk P f S) (ma : List Mode) (mr : Mode) : SpecOk P f (adapt ma mr S) := by
  intro ρ fin args hp K h w F μ vs hrl ha
  unfold adapt at h
  split at h
  · cases h
  · rename_i args' s1 hn
    obtain ⟨F1, μ1, k1, k2, k3, k4⟩ := normA_ok (base_rel hrl) ha hn
    have hany : ∀ (K : AV → St → Option ρ), callStep ⟨fun _ => noTI, fun _ => S⟩ 0 args' s1 K = callStep ⟨fun _ => noTI, fun _ => S⟩ f args' s1 K := fun _ => rfl
    rw [hany] at h
    refine Does.mono (call_ok (E := ⟨fun _ => noTI, fun _ => S⟩) (f := f) k1 hS k2 h) ?_
    rintro v w' ⟨F2, μ2, s2, av, j1, j2, j3⟩
    split at j3
    · cases j3
    · rename_i r' s3 hv
      obtain ⟨F3, μ3, l1, l2, l3, l4⟩ := normV_ok j1 j2 hv
      split at j3
      · cases j3
      · rename_i ord hg
        obtain ⟨hn', _, hin, hcl⟩ := gather_ok hg List.nodup_nil (fun id h => by cases h)
        exact ⟨_, _, _, F3, subμ μ3 ord, j3, sub_rl l1.heap hn' hcl, AR_ren' _ _ (fun id hi p hp => sub_m (hin id (List.mem_append.2 (.inr hi))) hp) l2, ext_sub l1.ext (gather_roots hg)⟩

/-- A part of the arguments' cases: data that may be nil. -/
def cl0 (t : Ty) : Summ := fun ρ args hp K =>
  match args, hp with
  | [.sl t' xs], [] => if h : t' = t then (bif decide (xs.length ≤ lim) then K (.own 0) [(0, .row t (cast h xs))] 1 else none) else none
  | _, _ => none

theorem nil_row {hp : List (Nat × AO)} (t : Ty) (h : Rl w F μ [] 0) : ∃ μ', Rl w F μ' [(0, .row t [])] 1 ∧ AR w F μ' (.own 0) (.slice none 0 0) := by
  obtain ⟨μ', h1, h2, _⟩ := Rel.nilRow (base_rel (hp := []) h) t
  exact ⟨μ', h1.heap, h2⟩

/-- slices.Clone, from its own text. -/
theorem clone_ok {f : Nat} {S : Summ} (hS : SpecOk P f S) (t : Ty) (hnil : ∀ (ρ : Type) (K : AV → List (Nat × AO) → Nat → Option ρ), S ρ [.nils] [] K = K .nils [] 0)
    (hsome : ∀ (ρ : Type) (K : AV → List (Nat × AO) → Nat → Option ρ) (xs : List t.D), S ρ [.sn t xs] [] K = bif decide (xs.length ≤ lim) then K (.own 0) [(0, .row t xs)] 1 else none) : SpecOk P f (cl0 t) := by
  intro ρ fin args hp K h w F μ vs hrl ha
  unfold cl0 at h
  split at h
  · rename_i t' xs
    split at h
    · rename_i he
      subst he
      obtain ⟨hb, h⟩ := bif_none h
      have hb' : xs.length ≤ lim := of_decide_eq_true hb
      obtain ⟨v, vr, rfl, hv, hvr⟩ := ha
      cases hvr
      have hv' := hv
      obtain ⟨A, c, hvv, hc, hel⟩ := hv'
      cases hvv
      cases A with
      | none =>
        have hx0 : xs = [] := by
          cases xs with
          | nil => rfl
          | cons x r => obtain ⟨b, off, ys, hA, _⟩ := hel 0 x rfl; cases hA
        subst hx0
        have hc0 : c = 0 := hc.2 rfl
        subst hc0
        let K' : AV → List (Nat × AO) → Nat → Option Unit := fun r hp n => match r, hp, n with
          | .nils, [], 0 => some ()
          | _, _, _ => none
        have h2 := hS Unit () [.nils] [] K' (by rw [hnil]; rfl) w F μ [.slice none 0 0] hrl ⟨_, [], rfl, rfl, rfl⟩
        refine Does.mono h2 ?_
        rintro u w' ⟨r, hp', nx', F', μ', k1, k2, k3, k4⟩
        simp only [K'] at k1
        split at k1
        · cases k3
          obtain ⟨μ2, m1, m2, m3⟩ := Rel.nilRow (B := base w F μ []) (s := ⟨0, [], [], 0⟩) (a := ⟨#[], []⟩) ⟨k2, fun _ => trivial, rfl, rfl, k4⟩ t'
          exact ⟨_, _, _, F', μ2, h, m1.heap, m2, m1.ext⟩
        · cases k1
      | some A =>
        have h2 := hS ρ fin [.sn t' xs] [] K (by rw [hsome, hb]; exact h) w F μ [.slice (some A) xs.length c] hrl ⟨_, [], rfl, ⟨hv, A, _, c, rfl⟩, rfl⟩
        exact h2
    · cases h
  · cases h
end
end Go.Ai
