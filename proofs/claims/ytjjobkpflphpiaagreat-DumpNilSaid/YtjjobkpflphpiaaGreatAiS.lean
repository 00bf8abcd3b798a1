/- The table of types, checked. -/
import Derived.Test.YtjjobkpflphpiaaGreatAiRa
set_option linter.unusedVariables false
set_option linter.unusedSimpArgs false
namespace Go.Ai

def zOk : AV → Value → Bool
  | .und, _ => true
  | .bool b, .bool b' => decide (b' = b)
  | .int k n, .int k' n' => decide (k' = k) && decide (n' = n) && decide (n = 0)
  | .str s, .string b => s.isEmpty && b.data.toList.isEmpty
  | .nilp, .pointer none => true
  | .nils, .slice none 0 0 => true
  | .nilf, .nilFunc => true
  | _, _ => false

def zsOk : List AV → List Value → Bool
  | [], [] => true
  | x :: r, v :: q => zOk x v && zsOk r q
  | _, _ => false

def rz : Ty → List Value → Bool
  | .int k, [.int k' n] => decide (k' = k) && decide (n = 0)
  | .byte, [.int .u8 n] => decide (n = 0)
  | .bool, [.bool b] => !b
  | .str, [.string b] => b.data.toList.isEmpty
  | .list _, [.slice none 0 0] => true
  | .prod a b, cs => rz a (cs.take a.sz) && rz b (cs.drop a.sz)
  | _, _ => false

def kOk (P : Program) (t : Nat) : TK → Bool
  | .other => true
  | .str => (match P.underlying t with | some .string => true | _ => false)
  | .bool => (match P.underlying t with | some .bool => true | _ => false)
  | .int k => (match P.underlying t with | some (.int k') => decide (k' = k) | _ => false)
  | .slice e => (match P.underlying t with | some (.slice e') => decide (e' = e) | _ => false)
  | .arr n e => (match P.underlying t with | some (.array n' e') => decide (n' = n) && decide (e' = e) | _ => false)
  | .struct fs => (match P.underlying t with | some (.struct fields) => decide (fields.toList.map (fun f => (f.offset, f.type)) = fs) | _ => false)
  | .ptr => (match P.underlying t with | some (.pointer _) => true | _ => false)
  | .func => (match P.underlying t with | some (.func _ _ _) => true | _ => false)

def tiOk (P : Program) (t : Nat) (ti : TI) : Bool :=
  kOk P t ti.kind && (!ti.eqs || (eqTy P 20 t ti.zero && Nat.beq (P.cellsOf t) ti.zero.length && (match P.underlying t with | some d => aggOf d | none => false) && !P.eqGuardType P.depth t)) &&
  (bif Nat.ble 1 ti.size then
    (match P.info? t with
    | none => false
    | some i => Nat.beq i.size ti.size && Nat.beq i.bytes ti.bytes &&
      (match i.zero with
      | none => false
      | some z => Nat.beq z.cells.size ti.size && zsOk ti.zero z.cells.toList && z.cells.toList.all (·.oneCell') &&
        (match ti.ty with
        | none => true
        | some ty => Nat.beq ty.sz ti.size && rz ty z.cells.toList))) &&
    (match P.underlying t with
    | none => false
    | some d => aggOf d == ti.agg)
  else ti.ty.isNone)

theorem zOk_ok {w : World} {F : Nat → Prop} {μ : Nat → Option Pl} : ∀ {x : AV} {v : Value}, zOk x v = true → AR w F μ x v := by
  intro x v h
  unfold zOk at h
  split at h
  · trivial
  · exact congrArg _ (of_decide_eq_true h)
  · simp only [Bool.and_eq_true, decide_eq_true_eq] at h
    obtain ⟨⟨rfl, rfl⟩, h⟩ := h
    exact ⟨rfl, fun _ => by omega⟩
  · rename_i s b
    simp only [Bool.and_eq_true, List.isEmpty_iff] at h
    obtain ⟨rfl, h⟩ := h
    show Value.string b = .string ⟨#[]⟩
    congr 1
    apply ByteArray.ext
    apply Array.ext'
    simpa using h
  · rfl
  · rfl
  · rfl
  · cases h

theorem zsOk_ok {w : World} {F : Nat → Prop} {μ : Nat → Option Pl} : ∀ {xs : List AV} {vs : List Value}, zsOk xs vs = true → ARs w F μ xs vs
  | [], [], _ => rfl
  | x :: r, v :: q, h => by
    simp only [zsOk, Bool.and_eq_true] at h
    exact ⟨v, q, rfl, zOk_ok h.1, zsOk_ok h.2⟩

theorem rz_ok {w : World} {F : Nat → Prop} : ∀ {t : Ty} {cs : List Value}, rz t cs = true → Rp w F t t.dflt cs := by
  intro t
  induction t with
  | int k =>
    intro cs h
    unfold rz at h
    split at h <;> (try (rename_i he; cases he; done)) <;> (try (cases h; done))
    rename_i he
    cases he
    simp only [Bool.and_eq_true, decide_eq_true_eq] at h
    obtain ⟨rfl, rfl⟩ := h
    exact ⟨rfl, fun _ => by simp [Ty.dflt]⟩
  | byte =>
    intro cs h
    unfold rz at h
    split at h <;> (try (rename_i he; cases he; done)) <;> (try (cases h; done))
    simp only [decide_eq_true_eq] at h
    subst h
    rfl
  | bool =>
    intro cs h
    unfold rz at h
    split at h <;> (try (rename_i he; cases he; done)) <;> (try (cases h; done))
    rename_i b _
    cases b
    · rfl
    · cases h
  | str =>
    intro cs h
    unfold rz at h
    split at h <;> (try (rename_i he; cases he; done)) <;> (try (cases h; done))
    rename_i b _
    simp only [List.isEmpty_iff] at h
    show [Value.string b] = [Value.string ⟨List.toArray []⟩]
    congr 2
    apply ByteArray.ext
    apply Array.ext'
    simpa using h
  | list t ih =>
    intro cs h
    unfold rz at h
    split at h <;> (try (rename_i he; cases he; done)) <;> (try (cases h; done))
    refine ⟨none, 0, rfl, ⟨Nat.le_refl _, fun _ => rfl⟩, fun i x hx => ?_⟩
    have : ([] : List t.D)[i]? = some x := hx
    simp at this
  | prod a b iha ihb =>
    intro cs h
    simp only [rz, Bool.and_eq_true] at h
    exact ⟨cs.take a.sz, cs.drop a.sz, (List.take_append_drop _ _).symm, iha h.1, ihb h.2⟩

theorem tiOk_ok {P : Program} {t : Nat} {ti : TI} (h : tiOk P t ti = true) : TyOk P t ti := by
  unfold tiOk at h
  rw [Bool.and_eq_true, Bool.and_eq_true] at h
  obtain ⟨⟨hk, he⟩, h⟩ := h
  have hin : 1 ≤ ti.size → ∃ i, P.info? t = some i ∧ i.size = ti.size ∧ i.bytes = ti.bytes ∧ (∃ z, i.zero = some z ∧ z.cells.size = ti.size ∧ zsOk ti.zero z.cells.toList = true ∧ z.cells.toList.all (·.oneCell') = true ∧ (∀ ty, ti.ty = some ty → ty.sz = ti.size ∧ rz ty z.cells.toList = true)) ∧ ∃ d, P.underlying t = some d ∧ aggOf d = ti.agg := by
    intro h1
    have hb : Nat.ble 1 ti.size = true := Nat.ble_eq_true_of_le h1
    rw [hb] at h
    simp only [cond_true, Bool.and_eq_true] at h
    obtain ⟨h2, h3⟩ := h
    split at h2
    · cases h2
    · rename_i i hi
      simp only [Bool.and_eq_true] at h2
      obtain ⟨⟨k1, k2⟩, k3⟩ := h2
      split at k3
      · cases k3
      · rename_i z hz
        simp only [Bool.and_eq_true] at k3
        obtain ⟨⟨⟨j1, j2⟩, j3⟩, j4⟩ := k3
        split at h3
        · cases h3
        · rename_i d hd
          refine ⟨i, hi, Nat.eq_of_beq_eq_true k1, Nat.eq_of_beq_eq_true k2, ⟨z, hz, Nat.eq_of_beq_eq_true j1, j2, j3, fun ty hty => ?_⟩, d, hd, by simpa using h3⟩
          rw [hty] at j4
          simp only [Bool.and_eq_true] at j4
          exact ⟨Nat.eq_of_beq_eq_true j4.1, j4.2⟩
  have hty : ∀ ty, ti.ty = some ty → 1 ≤ ti.size := by
    intro ty hty
    rcases Nat.eq_zero_or_pos ti.size with h0 | h0
    · rw [h0] at h
      have : Nat.ble 1 0 = false := rfl
      rw [this, cond_false, hty] at h
      cases h
    · exact h0
  refine ⟨?_, ?_, ?_, ?_, ?_, ?_, ?_, ?_, ?_, ?_, ?_, ?_, ?_⟩
  · intro h1
    obtain ⟨i, hi, a1, a2, ⟨z, hz, b1, b2, b3, b4⟩, _⟩ := hin h1
    exact ⟨i, hi, a1, a2, z, hz, b1, fun w F μ => ⟨zsOk_ok b2, fun u hu => List.all_eq_true.1 b3 u hu⟩⟩
  · intro h1
    obtain ⟨i, hi, a1, a2, _, d, hd, hag⟩ := hin h1
    refine ⟨d, hd, ?_⟩
    rw [← hag]
    cases d <;> rfl
  all_goals (try (intro hk'; rw [hk'] at hk; simp only [kOk] at hk; split at hk <;> first | assumption | cases hk))
  · intro k hk'; rw [hk'] at hk; simp only [kOk] at hk
    split at hk
    · rename_i hu; rw [hu]; rw [of_decide_eq_true hk]
    · cases hk
  · intro k hk'; rw [hk'] at hk; simp only [kOk] at hk
    split at hk
    · rename_i hu; rw [hu]; rw [of_decide_eq_true hk]
    · cases hk
  · intro n e hk'; rw [hk'] at hk; simp only [kOk] at hk
    split at hk
    · rename_i hu
      simp only [Bool.and_eq_true, decide_eq_true_eq] at hk
      rw [hu, hk.1, hk.2]
    · cases hk
  · intro fs hk'; rw [hk'] at hk; simp only [kOk] at hk
    split at hk
    · rename_i fields hu
      exact ⟨fields, hu, of_decide_eq_true hk⟩
    · cases hk
  · exact ⟨_, by assumption⟩
  · exact ⟨_, _, _, by assumption⟩
  · intro ty hty'
    obtain ⟨i, hi, a1, a2, ⟨z, hz, b1, b2, b3, b4⟩, _⟩ := hin (hty ty hty')
    exact ⟨(b4 ty hty').1, hty ty hty'⟩
  · intro ty hty' i z hi hz w F
    obtain ⟨i', hi', a1, a2, ⟨z', hz', b1, b2, b3, b4⟩, _⟩ := hin (hty ty hty')
    rw [hi] at hi'; cases hi'
    rw [hz] at hz'; cases hz'
    exact rz_ok (b4 ty hty').2
  · intro h
    rw [h] at he
    simp only [Bool.not_true, Bool.false_or, Bool.and_eq_true, Bool.not_eq_true'] at he
    obtain ⟨⟨⟨h1, h2⟩, h3⟩, h4⟩ := he
    have h2 := Nat.eq_of_beq_eq_true h2
    split at h3
    · rename_i d hd
      refine ⟨.inl h4, fun w F μ a b xs ys r ka kb ha hb hq => ⟨run_eqGuard_agg w .eql t _ _ _ _ h4, ?_⟩⟩
      have := eqTy_ok 9980 20 t ti.zero h1 w F μ a b xs ys r (by rw [likes_len ka]; exact h2.symm) (by rw [likes_len kb]; exact h2.symm) ka kb ha hb hq
      simp only [vT, hd, h3, cond_true] at this
      exact this
    · cases h3

/-- A table of so many types. -/
def tabOf (n : Nat) (T : Tr TI) (t : Nat) : TI := bif Nat.blt t n then T.get t else noTI

def tabOk (P : Program) (n : Nat) (T : Tr TI) : Bool := (List.range n).all fun t => tiOk P t (T.get t)

theorem tabOk_ok {P : Program} {n : Nat} {T : Tr TI} (h : tabOk P n T = true) : TabOk P (tabOf n T) := by
  intro t
  unfold tabOf
  cases hb : Nat.blt t n
  · exact tiOk_ok (show tiOk P t noTI = true from rfl)
  · refine tiOk_ok ?_
    have hlt : t < n := by
      simp only [Nat.blt] at hb
      exact Nat.le_of_ble_eq_true hb
    exact List.all_eq_true.1 h t (List.mem_range.2 hlt)
end Go.Ai
