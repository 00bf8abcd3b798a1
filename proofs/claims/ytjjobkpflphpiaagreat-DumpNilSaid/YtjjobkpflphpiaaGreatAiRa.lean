/- Equality of structs and arrays, cell by cell. -/
import Derived.Test.YtjjobkpflphpiaaGreatAiR
import Derived.ChangeKeysEq
set_option linter.unusedVariables false
set_option linter.unusedSimpArgs false
namespace Go.Ai

def aggOf : TypeDesc → Bool
  | .struct _ => true
  | .array _ _ => true
  | _ => false

/-- Fields in their turn, one behind the other. -/
def eqFs (P : Program) (q : Nat → List AV → Bool) (zs : List AV) : List Field → Nat → Nat → Bool
  | [], off, n => Nat.beq off n
  | f :: r, off, n => f.name != "_" && Nat.beq f.offset off && q f.type ((zs.drop off).take (P.cellsOf f.type)) && eqFs P q zs r (off + P.cellsOf f.type) n

/-- Types whose values are compared cell by cell; zs: the zero's cells. -/
def eqTy (P : Program) : Nat → Nat → List AV → Bool
  | 0, _, _ => false
  | d + 1, t, zs =>
    match P.underlying t with
    | some .bool => Nat.beq (P.cellsOf t) 1 && (match zs with | [.bool _] => true | _ => false)
    | some (.int _) => Nat.beq (P.cellsOf t) 1 && (match zs with | [.int _ _] => true | _ => false)
    | some .string => Nat.beq (P.cellsOf t) 1 && (match zs with | [.str _] => true | _ => false)
    | some (.struct fs) => !P.stoodInHeld t && eqFs P (eqTy P d) zs fs.toList 0 (P.cellsOf t)
    | some (.array n e) => (P.underlying e).isSome && Nat.beq (P.cellsOf t) (n * P.cellsOf e) && (List.range' 0 n).all fun i => eqTy P d e ((zs.drop (i * P.cellsOf e)).take (P.cellsOf e))
    | _ => false

/-- Cells as a value of a type. -/
def vT (P : Program) (t : Nat) (xs : List Value) : Value :=
  match P.underlying t with
  | some d => bif aggOf d then .agg xs.toArray else xs.headD undef
  | none => undef

theorem likes_len : ∀ {z a : List AV}, likes z a = true → a.length = z.length
  | [], [], _ => rfl
  | x :: r, y :: q, h => by
    cases x <;> cases y <;> simp only [likes, Bool.and_eq_true, reduceCtorEq, Bool.false_eq_true] at h <;> simp [likes_len (z := r) (a := q) (by first | exact h | exact h.2)]
  | [], y :: q, h => by cases y <;> simp [likes] at h
  | x :: r, [], h => by cases x <;> simp [likes] at h

theorem likes_take : ∀ (n : Nat) {z a : List AV}, likes z a = true → likes (z.take n) (a.take n) = true
  | 0, _, _, _ => by simp [likes]
  | n + 1, [], [], _ => by simp [likes]
  | n + 1, x :: r, y :: q, h => by
    cases x <;> cases y <;> simp only [likes, Bool.and_eq_true, reduceCtorEq, Bool.false_eq_true] at h <;> simp only [List.take_succ_cons, likes, Bool.and_eq_true] <;> first | exact likes_take n h | exact ⟨h.1, likes_take n h.2⟩
  | n + 1, [], y :: q, h => by cases y <;> simp [likes] at h
  | n + 1, x :: r, [], h => by cases x <;> simp [likes] at h

theorem likes_drop : ∀ (n : Nat) {z a : List AV}, likes z a = true → likes (z.drop n) (a.drop n) = true
  | 0, _, _, h => by simpa using h
  | n + 1, [], [], _ => by simp [likes]
  | n + 1, x :: r, y :: q, h => by
    cases x <;> cases y <;> simp only [likes, Bool.and_eq_true, reduceCtorEq, Bool.false_eq_true] at h <;> simp only [List.drop_succ_cons] <;> first | exact likes_drop n h | exact likes_drop n h.2
  | n + 1, [], y :: q, h => by cases y <;> simp [likes] at h
  | n + 1, x :: r, [], h => by cases x <;> simp [likes] at h

section
variable {P : Program} {F : Nat → Prop} {μ : Nat → Option Pl}

def EqD (P : Program) (dd t : Nat) (zs : List AV) : Prop :=
  ∀ (w : World) (F : Nat → Prop) (μ : Nat → Option Pl) (a b : List AV) (xs ys : List Value) (r : Bool), a.length = P.cellsOf t → b.length = P.cellsOf t → likes zs a = true → likes zs b = true → ARs w F μ a xs → ARs w F μ b ys → eqCells a b = some r →
    (Op.equalIn dd t (vT P t xs) (vT P t ys)).run P w = .ok r w

theorem eqTy_under {d t : Nat} {zs : List AV} (h : eqTy P d t zs = true) : ∃ u, P.underlying t = some u ∧ (aggOf u = false → P.cellsOf t = 1) := by
  cases d with
  | zero => cases h
  | succ d =>
    unfold eqTy at h
    split at h <;> (try (cases h; done))
    all_goals (rename_i hu; refine ⟨_, hu, fun ha => ?_⟩; first | (simp only [Bool.and_eq_true] at h; exact Nat.eq_of_beq_eq_true h.1) | cases ha)

theorem part_vT {t : Nat} {u : TypeDesc} (hu : P.underlying t = some u) (h1 : aggOf u = false → P.cellsOf t = 1) (w : World) (xs : List Value) (off : Nat) (hl : off + P.cellsOf t ≤ xs.length) :
    (part t xs.toArray off).run P w = .ok (vT P t ((xs.drop off).take (P.cellsOf t))) w := by
  obtain ⟨i, hi⟩ := info_of_underlying hu
  unfold vT
  rw [hu]
  cases ha : aggOf u
  · have hc := h1 ha
    have h0 : xs.toArray[off]? = some xs[off] := by simp [List.getElem?_eq_getElem (show off < xs.length by omega)]
    have hag : (isAgg t).run P w = .ok false w := by cases u <;> simp_all [isAgg, run_underlying hu, aggOf]
    have h2 : ((xs.drop off).take 1) = [xs[off]] := by
      rw [List.drop_eq_getElem_cons (by omega)]; rfl
    simp only [part, Sem.run_bind, hag, Result.andThen_ok, Bool.false_eq_true, if_false, h0, hc, h2, ha, cond_false]
    rfl
  · have hag : (isAgg t).run P w = .ok true w := by cases u <;> simp_all [isAgg, run_underlying hu, aggOf]
    simp only [part, Sem.run_bind, hag, Result.andThen_ok, if_true, run_sizeOf w hi, ha, cond_true]
    simp [List.extract]

theorem bif_id (c : Bool) : c = (bif c then true else false) := by cases c <;> rfl
theorem bif_and (c r1 r2 : Bool) : (bif c then (r1 && r2) else false) = ((bif c then r1 else false) && r2) := by cases c <;> rfl

theorem eqCells_split : ∀ (n : Nat) {a b : List AV} {r : Bool}, n ≤ a.length → eqCells a b = some r → ∃ r1 r2, eqCells (a.take n) (b.take n) = some r1 ∧ eqCells (a.drop n) (b.drop n) = some r2 ∧ r = (r1 && r2)
  | 0, a, b, r, _, h => ⟨true, r, by simp [eqCells], by simpa using h, by simp⟩
  | n + 1, [], b, r, hn, h => by simp at hn
  | n + 1, x :: a, [], r, hn, h => by cases x <;> simp [eqCells] at h
  | n + 1, x :: a, y :: b, r, hn, h => by
    have hn' : n ≤ a.length := by simpa using hn
    cases x <;> cases y <;> simp only [eqCells, reduceCtorEq] at h
    · simp only [Option.map_eq_some_iff] at h
      obtain ⟨r', hr, rfl⟩ := h
      obtain ⟨r1, r2, h1, h2, rfl⟩ := eqCells_split n hn' hr
      refine ⟨_, r2, by simp only [List.take_succ_cons, eqCells, h1, Option.map_some]; rfl, by simpa using h2, ?_⟩
      exact bif_and _ _ _
    · obtain ⟨hk, h⟩ := bif_none h
      simp only [Option.map_eq_some_iff] at h
      obtain ⟨r', hr, rfl⟩ := h
      obtain ⟨r1, r2, h1, h2, rfl⟩ := eqCells_split n hn' hr
      refine ⟨_, r2, by simp only [List.take_succ_cons, eqCells, h1, hk, cond_true, Option.map_some]; rfl, by simpa using h2, ?_⟩
      exact bif_and _ _ _
    · simp only [Option.map_eq_some_iff] at h
      obtain ⟨r', hr, rfl⟩ := h
      obtain ⟨r1, r2, h1, h2, rfl⟩ := eqCells_split n hn' hr
      refine ⟨_, r2, by simp only [List.take_succ_cons, eqCells, h1, Option.map_some]; rfl, by simpa using h2, ?_⟩
      exact bif_and _ _ _

/-- A step: a part of both. -/
theorem eqD_step {dd t off : Nat} {zs : List AV} {u : TypeDesc} (hu : P.underlying t = some u) (hu1 : aggOf u = false → P.cellsOf t = 1) (hd : EqD P dd t ((zs.drop off).take (P.cellsOf t))) (w : World) {a b : List AV} {xs ys : List Value} {r : Bool} (hoff : off + P.cellsOf t ≤ a.length)
    (ka : likes zs a = true) (kb : likes zs b = true) (ha : ARs w F μ a xs) (hb : ARs w F μ b ys) (h : eqCells (a.drop off) (b.drop off) = some r) :
    ∃ r1 r2, (part t xs.toArray off).run P w = .ok (vT P t ((xs.drop off).take (P.cellsOf t))) w ∧ (part t ys.toArray off).run P w = .ok (vT P t ((ys.drop off).take (P.cellsOf t))) w ∧
      (Op.equalIn dd t (vT P t ((xs.drop off).take (P.cellsOf t))) (vT P t ((ys.drop off).take (P.cellsOf t)))).run P w = .ok r1 w ∧ eqCells (a.drop (off + P.cellsOf t)) (b.drop (off + P.cellsOf t)) = some r2 ∧ r = (r1 && r2) := by
  have l1 := likes_len ka
  have l2 := likes_len kb
  obtain ⟨r1, r2, h1, h2, h3⟩ := eqCells_split (P.cellsOf t) (by rw [List.length_drop]; omega) h
  have lx := ARs_len ha
  have ly := ARs_len hb
  refine ⟨r1, r2, part_vT hu hu1 w xs off (by omega), part_vT hu hu1 w ys off (by omega), hd w F μ _ _ _ _ r1 ?_ ?_ (likes_take _ (likes_drop _ ka)) (likes_take _ (likes_drop _ kb)) (ARs_take _ (ARs_drop off ha)) (ARs_take _ (ARs_drop off hb)) h1, ?_, h3⟩
  · rw [List.length_take, List.length_drop]; omega
  · rw [List.length_take, List.length_drop]; omega
  · rw [List.drop_drop, List.drop_drop] at h2
    exact h2

theorem eqFs_ok {d dd n : Nat} (w : World) {zs a b : List AV} {xs ys : List Value} (ka : likes zs a = true) (kb : likes zs b = true) (ha : ARs w F μ a xs) (hb : ARs w F μ b ys) (hl : a.length = n) (hl' : b.length = n) :
    ∀ (fs : List Field) (off : Nat) (r : Bool), (∀ t zs, eqTy P d t zs = true → EqD P dd t zs) → eqFs P (eqTy P d) zs fs off n = true → eqCells (a.drop off) (b.drop off) = some r → (Op.eqFields dd xs.toArray ys.toArray fs).run P w = .ok r w
  | [], off, r, _, h, he => by
    have h : off = n := Nat.eq_of_beq_eq_true h
    have e1 : a.drop off = [] := List.drop_eq_nil_of_le (by omega)
    have e2 : b.drop off = [] := List.drop_eq_nil_of_le (by omega)
    rw [e1, e2] at he
    simp only [eqCells, Option.some.injEq] at he
    subst he
    rfl
  | f :: fs, off, r, hd, h, he => by
    simp only [eqFs, Bool.and_eq_true, bne_iff_ne, ne_eq] at h
    obtain ⟨⟨⟨hn, ho⟩, ht⟩, hr⟩ := h
    have ho : f.offset = off := Nat.eq_of_beq_eq_true ho
    subst ho
    have hle : ∀ (fs : List Field) (off : Nat), eqFs P (eqTy P d) zs fs off n = true → off ≤ n := by
      intro fs
      induction fs with
      | nil => intro off h; exact Nat.le_of_eq (Nat.eq_of_beq_eq_true h)
      | cons f fs ih =>
        intro off h
        simp only [eqFs, Bool.and_eq_true] at h
        have := ih _ h.2
        omega
    obtain ⟨u, hu, hu1⟩ := eqTy_under ht
    obtain ⟨r1, r2, p1, p2, p3, p4, rfl⟩ := eqD_step hu hu1 (hd _ _ ht) w (off := f.offset) (by have := hle fs _ hr; omega) ka kb ha hb he
    have ih := eqFs_ok w ka kb ha hb hl hl' fs _ r2 hd hr p4
    simp only [Op.eqFields, hn, ne_eq, not_false_eq_true, if_true, Sem.run_bind, p1, p2, p3, Result.andThen_ok]
    cases r1
    · simp
    · simpa using ih

theorem eqIs_ok {d dd e : Nat} (w : World) {zs a b : List AV} {xs ys : List Value} {u : TypeDesc} (hu : P.underlying e = some u) (hu1 : aggOf u = false → P.cellsOf e = 1) (ka : likes zs a = true) (kb : likes zs b = true) (ha : ARs w F μ a xs) (hb : ARs w F μ b ys) (hd : ∀ zs, eqTy P d e zs = true → EqD P dd e zs) :
    ∀ (m k : Nat) (r : Bool), a.length = (k + m) * P.cellsOf e → ((List.range' k m).all fun i => eqTy P d e ((zs.drop (i * P.cellsOf e)).take (P.cellsOf e))) = true → eqCells (a.drop (k * P.cellsOf e)) (b.drop (k * P.cellsOf e)) = some r → (Op.eqItems dd e (P.cellsOf e) xs.toArray ys.toArray (List.range' k m)).run P w = .ok r w
  | 0, k, r, h, _, he => by
    have h : a.length = k * P.cellsOf e := by simpa using h
    have l1 := likes_len ka
    have l2 := likes_len kb
    have e1 : a.drop (k * P.cellsOf e) = [] := List.drop_eq_nil_of_le (by omega)
    have e2 : b.drop (k * P.cellsOf e) = [] := List.drop_eq_nil_of_le (by omega)
    rw [e1, e2] at he
    simp only [eqCells, Option.some.injEq] at he
    subst he
    rfl
  | m + 1, k, r, h, hq, he => by
    rw [List.range'_succ] at hq ⊢
    simp only [List.all_cons, Bool.and_eq_true] at hq
    have hk : (k + 1 + m) * P.cellsOf e = (k + (m + 1)) * P.cellsOf e := by congr 1; omega
    have h1 : k * P.cellsOf e + P.cellsOf e = (k + 1) * P.cellsOf e := by rw [Nat.add_mul, Nat.one_mul]
    have h2 : (k + 1) * P.cellsOf e ≤ (k + 1 + m) * P.cellsOf e := Nat.mul_le_mul_right _ (by omega)
    obtain ⟨r1, r2, p1, p2, p3, p4, rfl⟩ := eqD_step hu hu1 (hd _ hq.1) w (off := k * P.cellsOf e) (by omega) ka kb ha hb he
    rw [h1] at p4
    have ih := eqIs_ok w hu hu1 ka kb ha hb hd m (k + 1) r2 (by omega) hq.2 p4
    simp only [Op.eqItems, Sem.run_bind, p1, p2, p3, Result.andThen_ok]
    cases r1
    · simp
    · simpa using ih

theorem eqTy_ok (dd : Nat) : ∀ (d t : Nat) (zs : List AV), eqTy P d t zs = true → EqD P (dd + d) t zs
  | 0, _, _, h => by cases h
  | d + 1, t, zs, h => by
    intro w F μ a b xs ys r la lb ka kb ha hb he
    obtain ⟨u, hu, h1⟩ := eqTy_under h
    unfold eqTy at h
    rw [hu] at h
    have leaf : ∀ z : AV, zs = [z] → aggOf u = false → (∀ (x y : AV) (vx vy : Value) (r : Bool), likes [z] [x] = true → likes [z] [y] = true → AR w F μ x vx → AR w F μ y vy → eqCells [x] [y] = some r → ∀ i, (Op.equalIn (i + 1) t vx vy).run P w = .ok r w) → (Op.equalIn (dd + (d + 1)) t (vT P t xs) (vT P t ys)).run P w = .ok r w := by
      intro z hz hag hk
      subst hz
      have l1 := likes_len ka
      have l2 := likes_len kb
      match a, b, l1, l2 with
      | [x], [y], _, _ =>
        obtain ⟨vx, xr, rfl, hx, hxr⟩ := ha
        obtain ⟨vy, yr, rfl, hy, hyr⟩ := hb
        cases hxr; cases hyr
        simp only [vT, hu, hag, cond_false, List.headD_cons]
        exact hk x y vx vy r ka kb hx hy he (dd + d)
    cases u <;> simp only at h <;> (try (cases h; done))
    case bool =>
      simp only [Bool.and_eq_true] at h
      obtain ⟨_, h⟩ := h
      split at h
      · refine leaf _ rfl rfl ?_
        intro x y vx vy r kx ky hx hy he i
        cases x <;> simp only [likes, Bool.false_eq_true] at kx
        cases y <;> simp only [likes, Bool.false_eq_true] at ky
        simp only [eqCells, Option.map_some, Option.some.injEq] at he
        cases hx; cases hy; subst he
        rw [run_equalIn_bool' w i t _ _ hu]; exact congrArg (fun b => Result.ok b w) (bif_id _)
      · cases h
    case int k =>
      simp only [Bool.and_eq_true] at h
      obtain ⟨_, h⟩ := h
      split at h
      · refine leaf _ rfl rfl ?_
        intro x y vx vy r kx ky hx hy he i
        cases x <;> simp only [likes, Bool.false_eq_true] at kx
        cases y <;> simp only [likes, Bool.false_eq_true] at ky
        simp only [eqCells] at he
        simp only [Bool.and_eq_true, decide_eq_true_eq] at kx ky
        have hk1 := kx.1
        have hk2 := ky.1
        subst hk1
        subst hk2
        obtain ⟨_, he⟩ := bif_none he
        simp only [eqCells, Option.map_some, Option.some.injEq] at he
        obtain ⟨rfl, _⟩ := hx; obtain ⟨rfl, _⟩ := hy; subst he
        rw [run_equalIn_int w i t _ _ _ _ hu]; exact congrArg (fun b => Result.ok b w) (bif_id _)
      · cases h
    case string =>
      simp only [Bool.and_eq_true] at h
      obtain ⟨_, h⟩ := h
      split at h
      · refine leaf _ rfl rfl ?_
        intro x y vx vy r kx ky hx hy he i
        cases x <;> simp only [likes, Bool.false_eq_true] at kx
        cases y <;> simp only [likes, Bool.false_eq_true] at ky
        simp only [eqCells, Option.map_some, Option.some.injEq] at he
        cases hx; cases hy; subst he
        rw [run_equalIn_string w i t _ _ hu]; simp only [ByteArray.toList_eq]; exact congrArg (fun b => Result.ok b w) (bif_id _)
      · cases h
    case struct fs =>
      simp only [Bool.and_eq_true, Bool.not_eq_true'] at h
      have hf : P.fieldsOf t = fs := by simp [Program.fieldsOf, hu]
      simp only [vT, hu, aggOf, cond_true]
      rw [show dd + (d + 1) = (dd + d) + 1 from rfl, run_equalIn_struct w (dd + d) t _ _ (by rw [hf]; exact hu) h.1, hf]
      exact eqFs_ok w ka kb ha hb la lb fs.toList 0 r (fun t zs ht => eqTy_ok dd d t zs ht) h.2 (by simpa using he)
    case array n e =>
      simp only [Bool.and_eq_true, Option.isSome_iff_exists] at h
      obtain ⟨⟨⟨ue, hue⟩, hc⟩, hall⟩ := h
      obtain ⟨ie, hie⟩ := info_of_underlying hue
      have hc : P.cellsOf t = n * P.cellsOf e := Nat.eq_of_beq_eq_true hc
      simp only [vT, hu, aggOf, cond_true]
      rw [show dd + (d + 1) = (dd + d) + 1 from rfl, run_equalIn_array w (dd + d) _ _ hu hie, List.range_eq_range']
      cases n with
      | zero =>
        have e1 : a = [] := List.length_eq_zero_iff.1 (by omega)
        have e2 : b = [] := List.length_eq_zero_iff.1 (by omega)
        subst e1; subst e2
        simp only [eqCells, Option.some.injEq] at he
        subst he
        rfl
      | succ n =>
        have hq := hall
        rw [List.range'_succ] at hq
        simp only [List.all_cons, Bool.and_eq_true] at hq
        obtain ⟨ue', hue', hu1⟩ := eqTy_under hq.1
        exact eqIs_ok w hue' hu1 ka kb ha hb (fun zs hz => eqTy_ok dd d e zs hz) (n + 1) 0 r (by simp; omega) hall (by simpa using he)
end
end Go.Ai
