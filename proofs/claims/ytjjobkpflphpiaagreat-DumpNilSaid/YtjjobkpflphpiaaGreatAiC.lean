/- Operations that turn no memory. -/
import Derived.Test.YtjjobkpflphpiaaGreatAiB
import Derived.Lib.Strings
set_option linter.unusedVariables false
set_option linter.unusedSimpArgs false
namespace Go.Ai
section
variable {w : World} {F : Nat → Prop} {μ : Nat → Option Pl} {P : Program} {ρ : Type} {fin : ρ}

theorem okI_wrap (k : IntKind) (n : Int) : okI k (k.wrap n) := by
  intro h; subst h
  simp only [IntKind.wrap, IntKind.signed, IntKind.bits]
  simp
  omega

theorem ofVal1_ok : ∀ v : Value, AR w F μ (ofVal1 v) v
  | .bool b => rfl
  | .int k n => by
    simp only [ofVal1]
    by_cases hk : k = .u8
    · simp only [hk, decide_true, cond_true]
      by_cases h : 0 ≤ n ∧ n ≤ 255
      · simp only [h.1, h.2, decide_true, Bool.and_self, cond_true]
        exact ⟨rfl, fun _ => h⟩
      · cases hb : (decide (0 ≤ n) && decide (n ≤ 255))
        · trivial
        · simp at hb; exact absurd hb h
    · simp only [hk, decide_false, cond_false]
      exact ⟨rfl, fun h => absurd h hk⟩
  | .string s => by
    show Value.string s = _
    congr 1
  | .pointer none => rfl
  | .pointer (some _) => trivial
  | .slice none 0 0 => rfl
  | .slice (some _) _ _ => by simp [ofVal1, AR]
  | .slice none (_ + 1) _ => trivial
  | .slice none 0 (_ + 1) => trivial
  | .nilFunc => rfl
  | .float _ _ => trivial
  | .complex _ _ _ => trivial
  | .map _ => trivial
  | .chan _ => trivial
  | .func _ _ _ => trivial
  | .iface _ _ => trivial
  | .nilIface => trivial
  | .agg _ => trivial
  | .tuple _ => trivial


theorem ofVal1s_ok : ∀ vs : List Value, ARs w F μ (vs.map ofVal1) vs
  | [] => rfl
  | v :: r => ⟨v, r, rfl, ofVal1_ok v, ofVal1s_ok r⟩

theorem one1_eq (v : Value) : one1 v = v.oneCell' := by cases v <;> rfl

theorem ofVal_ok (v : Value) : AR w F μ (ofVal v) v := by
  cases v with
  | agg cs =>
    simp only [ofVal]
    cases h : cs.toList.all one1
    · trivial
    · refine ⟨cs.toList, by simp, ofVal1s_ok _, fun u hu => ?_⟩
      rw [List.all_eq_true] at h
      rw [← one1_eq]; exact h u hu
  | _ => first | exact ofVal1_ok (.bool _) | exact ofVal1_ok (.int _ _) | exact ofVal1_ok (.string _) | exact ofVal1_ok (.pointer _) | exact ofVal1_ok (.slice _ _ _) | exact ofVal1_ok .nilFunc | trivial

theorem ev_ok {tm : List (Nat × AV)} {a : Act} (h : ∀ t, AR w F μ (lookV tm t) (a.tmps.getD t undef)) (x : Operand) : AR w F μ (ev tm x) (a.eval x) := by
  cases x with
  | tmp t => exact h t
  | const v => exact ofVal_ok v
  | global g => trivial
  | func f => exact ⟨[], [], rfl, rfl, rfl⟩

theorem evs_ok {tm : List (Nat × AV)} {a : Act} (h : ∀ t, AR w F μ (lookV tm t) (a.tmps.getD t undef)) : ∀ xs : List Operand, ARs w F μ (xs.map (ev tm)) (xs.map a.eval)
  | [] => rfl
  | x :: r => ⟨_, _, rfl, ev_ok h x, evs_ok h r⟩

theorem bif_some {b : Bool} {x y : Option ρ} (h : (bif b then x else y) = some fin) : (b = true ∧ x = some fin) ∨ (b = false ∧ y = some fin) := by
  cases b
  · exact .inr ⟨rfl, h⟩
  · exact .inl ⟨rfl, h⟩

theorem bif_none {b : Bool} {x : Option ρ} (h : (bif b then x else none) = some fin) : b = true ∧ x = some fin := by
  rcases bif_some h with h | ⟨_, h⟩
  · exact h
  · cases h

theorem bif_none' {b : Bool} {x : Option ρ} (h : (bif b then none else x) = some fin) : b = false ∧ x = some fin := by
  rcases bif_some h with ⟨_, h⟩ | h
  · cases h
  · exact h

/-- Values of the result, found. -/
def Got (P : Program) (w : World) (F : Nat → Prop) (μ : Nat → Option Pl) (K : AV → Option ρ) (fin : ρ) (m : Sem Value) : Prop :=
  ∃ v av, (∀ w2, m.run P w2 = .ok v w2) ∧ AR w F μ av v ∧ K av = some fin

/-- The same, in this world alone. -/
def GotAt (P : Program) (w : World) (F : Nat → Prop) (μ : Nat → Option Pl) (K : AV → Option ρ) (fin : ρ) (m : Sem Value) : Prop :=
  ∃ v av, m.run P w = .ok v w ∧ AR w F μ av v ∧ K av = some fin

/-- The same, in the worlds of a class. -/
def GotIn (P : Program) (W : World → Prop) (w : World) (F : Nat → Prop) (μ : Nat → Option Pl) (K : AV → Option ρ) (fin : ρ) (m : Sem Value) : Prop :=
  ∃ v av, (∀ w2, W w2 → m.run P w2 = .ok v w2) ∧ AR w F μ av v ∧ K av = some fin

theorem GotIn.of {W : World → Prop} {K : AV → Option ρ} {m : Sem Value} {v : Value} {av : AV} (h : K av = some fin) (hr : ∀ w2, W w2 → m.run P w2 = .ok v w2) (ha : AR w F μ av v) : GotIn P W w F μ K fin m := ⟨v, av, hr, ha, h⟩

theorem GotAt.of {K : AV → Option ρ} {m : Sem Value} {v : Value} {av : AV} (h : K av = some fin) (hr : m.run P w = .ok v w) (ha : AR w F μ av v) : GotAt P w F μ K fin m := ⟨v, av, hr, ha, h⟩

theorem Got.of {K : AV → Option ρ} {m : Sem Value} {v : Value} {av : AV} (h : K av = some fin) (hr : ∀ w2, m.run P w2 = .ok v w2) (ha : AR w F μ av v) : Got P w F μ K fin m := ⟨v, av, hr, ha, h⟩

theorem int_arith (op : BinOp) (k : IntKind) (x y : Int) {K : AV → Option ρ} (hx : okI k x) (hy : okI k y) (h : intBin op k x y K = some fin) :
    Got P w F μ K fin (match op with
      | .add | .sub | .mul => Op.intArith op k x y
      | .quo | .rem => Op.intDiv op k x y
      | .and | .or | .xor | .andNot => Op.intBits op k x y
      | _ => Op.intCmp op x y) := by
  cases op <;> simp only [intBin] at h <;> simp only []
  case add => exact Got.of h (fun _ => rfl) ⟨rfl, okI_wrap _ _⟩
  case sub => exact Got.of h (fun _ => rfl) ⟨rfl, okI_wrap _ _⟩
  case mul => exact Got.of h (fun _ => rfl) ⟨rfl, okI_wrap _ _⟩
  case quo =>
    obtain ⟨hb, h⟩ := bif_none' h
    have hb : ¬ y = 0 := by simpa using hb
    exact Got.of h (fun w => by simp [Op.intDiv, hb]) ⟨rfl, okI_wrap _ _⟩
  case rem =>
    obtain ⟨hb, h⟩ := bif_none' h
    have hb : ¬ y = 0 := by simpa using hb
    refine Got.of h (fun w => by simp [Op.intDiv, hb]) ⟨rfl, fun hk => ?_⟩
    have h1 := hx hk
    have h2 := hy hk
    rw [Int.tmod_eq_emod_of_nonneg h1.1]
    have := Int.emod_lt_of_pos x (show 0 < y by omega)
    have := Int.emod_nonneg x hb
    omega
  case and => exact Got.of h (fun _ => rfl) ⟨rfl, okI_wrap _ _⟩
  case or => exact Got.of h (fun _ => rfl) ⟨rfl, okI_wrap _ _⟩
  case xor => exact Got.of h (fun _ => rfl) ⟨rfl, okI_wrap _ _⟩
  case andNot => exact Got.of h (fun _ => rfl) ⟨rfl, okI_wrap _ _⟩
  case eql => exact Got.of h (fun _ => rfl) rfl
  case neq => exact Got.of h (fun _ => rfl) rfl
  case lss => exact Got.of h (fun _ => rfl) rfl
  case leq => exact Got.of h (fun _ => rfl) rfl
  case gtr => exact Got.of h (fun _ => rfl) rfl
  case geq => exact Got.of h (fun _ => rfl) rfl
  all_goals cases h

theorem bl (l : List UInt8) : (ByteArray.mk l.toArray).toList = l := by rw [ByteArray.toList_eq]

theorem str_bin (op : BinOp) (x y : List UInt8) {K : AV → Option ρ} (h : strBin op x y K = some fin) : Got P w F μ K fin (Op.stringOp op ⟨x.toArray⟩ ⟨y.toArray⟩) := by
  cases op <;> simp only [strBin] at h <;> (try (cases h; done))
  case add =>
    obtain ⟨hb, h⟩ := bif_none h
    have hb : x.length + y.length ≤ lim := by simpa using hb
    refine Got.of (v := .string (⟨x.toArray⟩ ++ ⟨y.toArray⟩)) h ?_ ?_
    · have hs : ((ByteArray.mk x.toArray).size + (ByteArray.mk y.toArray).size : Nat) = x.length + y.length := by simp [ByteArray.size]
      have : ¬ (((((ByteArray.mk x.toArray).size + (ByteArray.mk y.toArray).size : Nat)) : Int) > IntKind.i64.max) := by
        rw [hs]; simp only [lim, IntKind.max, IntKind.signed, IntKind.bits] at *; simp; omega
      intro w2
      simp only [Op.stringOp]
      rw [if_neg this]; rfl
    · show Value.string _ = Value.string _
      congr 1
  all_goals exact Got.of h (fun w => by simp [Op.stringOp, bl]) rfl

/-- What the table says of a type holds in the program. -/
structure TyOk (P : Program) (t : Nat) (ti : TI) : Prop where
  info : 1 ≤ ti.size → ∃ i, P.info? t = some i ∧ i.size = ti.size ∧ i.bytes = ti.bytes ∧
    ∃ z, i.zero = some z ∧ z.cells.size = ti.size ∧ ∀ (w : World) (F : Nat → Prop) (μ : Nat → Option Pl), ARs w F μ ti.zero z.cells.toList ∧ (∀ u ∈ z.cells.toList, u.oneCell' = true)
  agg : 1 ≤ ti.size → ∃ d, P.underlying t = some d ∧ (match d with | .struct _ | .array _ _ => true | _ => false) = ti.agg
  kstr : ti.kind = .str → P.underlying t = some .string
  kbool : ti.kind = .bool → P.underlying t = some .bool
  kint : ∀ k, ti.kind = .int k → P.underlying t = some (.int k)
  kslice : ∀ e, ti.kind = .slice e → P.underlying t = some (.slice e)
  karr : ∀ n e, ti.kind = .arr n e → P.underlying t = some (.array n e)
  kstruct : ∀ fs, ti.kind = .struct fs → ∃ fields, P.underlying t = some (.struct fields) ∧ fields.toList.map (fun f => (f.offset, f.type)) = fs
  kptr : ti.kind = .ptr → ∃ e, P.underlying t = some (.pointer e)
  kfunc : ti.kind = .func → ∃ a b c, P.underlying t = some (.func a b c)
  ty : ∀ ty, ti.ty = some ty → ty.sz = ti.size ∧ 1 ≤ ti.size
  dflt : ∀ ty, ti.ty = some ty → ∀ i z, P.info? t = some i → i.zero = some z → ∀ w F, Rp w F ty ty.dflt z.cells.toList
  eqs : ti.eqs = true → (P.eqGuardType P.depth t = false ∨ True) ∧ ∀ (w : World) (F : Nat → Prop) (μ : Nat → Option Pl) (a b : List AV) (xs ys : List Value) (r : Bool), likes ti.zero a = true → likes ti.zero b = true → ARs w F μ a xs → ARs w F μ b ys → eqCells a b = some r →
    (eqGuard .eql t (.tmp 0) (.tmp 0) (.agg xs.toArray) (.agg ys.toArray)).run P w = .ok () w ∧ (Op.equal t (.agg xs.toArray) (.agg ys.toArray)).run P w = .ok r w

theorem un_ok (op : UnOp) {x : AV} {v : Value} {K : AV → Option ρ} (hx : AR w F μ x v) (h : unStep op x K = some fin) : Got P w F μ K fin (Op.unary op v) := by
  cases op <;> cases x <;> simp only [unStep] at h <;> (try (cases h; done))
  case neg.int k n => obtain ⟨rfl, _⟩ := hx; exact Got.of h (fun _ => rfl) ⟨rfl, okI_wrap _ _⟩
  case not.bool b => cases hx; exact Got.of h (fun _ => rfl) rfl
  case xor.int k n => obtain ⟨rfl, _⟩ := hx; exact Got.of h (fun _ => rfl) ⟨rfl, okI_wrap _ _⟩

theorem guard_plain (op : BinOp) (t : TypeId) (xo yo : Operand) (a b : Value) (h : (a ≠ .nilIface ∨ b ≠ .nilIface)) (h' : (∀ cs, a ≠ .agg cs) ∨ (∀ cs, b ≠ .agg cs)) : (eqGuard op t xo yo a b).run P w = .ok () w := by
  unfold eqGuard
  by_cases hop : (!(match op with | .eql | .neq => true | _ => false)) = true
  · cases op <;> simp_all
  · have : op = .eql ∨ op = .neq := by cases op <;> simp_all
    rcases this with rfl | rfl <;> cases a <;> cases b <;> simp_all

theorem guard_agg (op : BinOp) (t : TypeId) (xo yo : Operand) (a b : Array Value) (h : (eqGuard .eql t (.tmp 0) (.tmp 0) (.agg a) (.agg b)).run P w = .ok () w) : (eqGuard op t xo yo (.agg a) (.agg b)).run P w = .ok () w := by
  cases op <;> first | rfl | exact h

theorem eqIn_bool (d : Nat) {t : Nat} (ht : P.underlying t = some .bool) (a b : Bool) : (Op.equalIn (d + 1) t (.bool a) (.bool b)).run P w = .ok (a == b) w := by
  simp [Op.equalIn, underlying, ht]
theorem eqIn_ptr (d : Nat) {t e : Nat} (ht : P.underlying t = some (.pointer e)) (x : Option Addr) : (Op.equalIn (d + 1) t (.pointer none) (.pointer x)).run P w = .ok x.isNone w := by
  simp [Op.equalIn, underlying, ht]
theorem eqIn_ptr' (d : Nat) {t e : Nat} (ht : P.underlying t = some (.pointer e)) (x : Addr) : (Op.equalIn (d + 1) t (.pointer (some x)) (.pointer none)).run P w = .ok false w := by
  simp [Op.equalIn, underlying, ht]
theorem eqIn_slice (d : Nat) {t e : Nat} (ht : P.underlying t = some (.slice e)) : (Op.equalIn (d + 1) t (.slice none 0 0) (.slice none 0 0)).run P w = .ok true w := by
  simp [Op.equalIn, underlying, ht]
theorem eqIn_slice1 (d : Nat) {t e : Nat} (ht : P.underlying t = some (.slice e)) (A : Addr) (l c : Nat) : (Op.equalIn (d + 1) t (.slice (some A) l c) (.slice none 0 0)).run P w = .ok false w := by
  simp [Op.equalIn, underlying, ht]
theorem eqIn_func (d : Nat) {t : Nat} {a b : Array TypeId} {c : Bool} (ht : P.underlying t = some (.func a b c)) : (Op.equalIn (d + 1) t .nilFunc .nilFunc).run P w = .ok true w := by
  simp [Op.equalIn, underlying, ht]
theorem eqIn_func1 (d : Nat) {t : Nat} {a b : Array TypeId} {c : Bool} (ht : P.underlying t = some (.func a b c)) (f : Fn) (x y : Array Value) : (Op.equalIn (d + 1) t (.func f x y) .nilFunc).run P w = .ok false w := by
  simp [Op.equalIn, underlying, ht]
theorem eqIn_func2 (d : Nat) {t : Nat} {a b : Array TypeId} {c : Bool} (ht : P.underlying t = some (.func a b c)) (f : Fn) (x y : Array Value) : (Op.equalIn (d + 1) t .nilFunc (.func f x y)).run P w = .ok false w := by
  simp [Op.equalIn, underlying, ht]

theorem ptr_eq {t e : Nat} (ht : P.underlying t = some (.pointer e)) : ∀ {x y : Value} {r : Bool}, ((x = .pointer none ∧ y = .pointer none ∧ r = true) ∨ (∃ a, x = .pointer none ∧ y = .pointer (some a) ∧ r = false) ∨ (∃ a, x = .pointer (some a) ∧ y = .pointer none ∧ r = false)) →
    (Op.equal t x y).run P w = .ok r w := by
  rintro x y r (⟨rfl, rfl, rfl⟩ | ⟨a, rfl, rfl, rfl⟩ | ⟨a, rfl, rfl, rfl⟩)
  · exact eqIn_ptr 9999 ht none
  · exact eqIn_ptr 9999 ht (some a)
  · exact eqIn_ptr' 9999 ht a

def EqShape (t : TypeId) (vx vy : Value) : Prop :=
  binOp .eql t vx vy = (do pure (.bool (← Op.equal t vx vy))) ∧ binOp .neq t vx vy = (do pure (.bool (!(← Op.equal t vx vy))))

theorem eqCells_any (w2 : World) : ∀ {a b : List AV} {r : Bool}, eqCells a b = some r → ∀ {xs ys : List Value}, ARs w F μ a xs → ARs w F μ b ys → ARs w2 F μ a xs ∧ ARs w2 F μ b ys
  | [], [], _, _, _, _, ha, hb => ⟨ha, hb⟩
  | .bool p :: x, .bool q :: y, r, h, _, _, ha, hb => by
    obtain ⟨v, vr, rfl, h1, h2⟩ := ha
    obtain ⟨u, ur, rfl, h3, h4⟩ := hb
    simp only [eqCells, Option.map_eq_some_iff] at h
    obtain ⟨r', hr, _⟩ := h
    obtain ⟨k1, k2⟩ := eqCells_any w2 hr h2 h4
    exact ⟨⟨v, vr, rfl, h1, k1⟩, ⟨u, ur, rfl, h3, k2⟩⟩
  | .int k p :: x, .int k' q :: y, r, h, _, _, ha, hb => by
    obtain ⟨v, vr, rfl, h1, h2⟩ := ha
    obtain ⟨u, ur, rfl, h3, h4⟩ := hb
    simp only [eqCells] at h
    obtain ⟨_, h⟩ := bif_none h
    simp only [Option.map_eq_some_iff] at h
    obtain ⟨r', hr, _⟩ := h
    obtain ⟨k1, k2⟩ := eqCells_any w2 hr h2 h4
    exact ⟨⟨v, vr, rfl, h1, k1⟩, ⟨u, ur, rfl, h3, k2⟩⟩
  | .str p :: x, .str q :: y, r, h, _, _, ha, hb => by
    obtain ⟨v, vr, rfl, h1, h2⟩ := ha
    obtain ⟨u, ur, rfl, h3, h4⟩ := hb
    simp only [eqCells, Option.map_eq_some_iff] at h
    obtain ⟨r', hr, _⟩ := h
    obtain ⟨k1, k2⟩ := eqCells_any w2 hr h2 h4
    exact ⟨⟨v, vr, rfl, h1, k1⟩, ⟨u, ur, rfl, h3, k2⟩⟩

theorem equal_kinds {ti : TI} {t : Nat} (ht : TyOk P t ti) {x y : AV} {vx vy : Value} (hx : AR w F μ x vx) (hy : AR w F μ y vy) {r : Bool} (h : eqAV ti x y = some r) (op : BinOp) (xo yo : Operand) :
    (∀ w2, (eqGuard op t xo yo vx vy).run P w2 = .ok () w2) ∧ (∀ w2, (Op.equal t vx vy).run P w2 = .ok r w2) ∧ EqShape t vx vy := by
  unfold eqAV at h
  split at h
  · rename_i hk
    have hu := ht.kbool hk
    split at h
    · cases hx; cases hy; cases h
      exact ⟨fun _ => guard_plain _ _ _ _ _ _ (.inl (by simp)) (.inl (by simp)), fun _ => eqIn_bool 9999 hu _ _, rfl, rfl⟩
    · cases h
  · rename_i hk
    obtain ⟨e, hu⟩ := ht.kptr hk
    have key : ((vx = .pointer none ∧ vy = .pointer none ∧ r = true) ∨ (∃ a, vx = .pointer none ∧ vy = .pointer (some a) ∧ r = false) ∨ (∃ a, vx = .pointer (some a) ∧ vy = .pointer none ∧ r = false)) := by
      split at h
      · cases hx; cases hy; cases h; exact .inl ⟨rfl, rfl, rfl⟩
      · cases hx; obtain ⟨_, _, _, _, rfl⟩ := hy; cases h; exact .inr (.inl ⟨_, rfl, rfl, rfl⟩)
      · cases hy; obtain ⟨_, _, _, _, rfl⟩ := hx; cases h; exact .inr (.inr ⟨_, rfl, rfl, rfl⟩)
      · cases hx; obtain ⟨_, _, _, _, _, rfl⟩ := hy; cases h; exact .inr (.inl ⟨_, rfl, rfl, rfl⟩)
      · cases hy; obtain ⟨_, _, _, _, _, rfl⟩ := hx; cases h; exact .inr (.inr ⟨_, rfl, rfl, rfl⟩)
      · cases hx; obtain ⟨_, _, _, rfl, _⟩ := hy; cases h; exact .inr (.inl ⟨_, rfl, rfl, rfl⟩)
      · cases hy; obtain ⟨_, _, _, rfl, _⟩ := hx; cases h; exact .inr (.inr ⟨_, rfl, rfl, rfl⟩)
      · cases h
    refine ⟨?_, fun _ => ptr_eq hu key, ?_⟩
    · rcases key with ⟨rfl, rfl, _⟩ | ⟨_, rfl, rfl, _⟩ | ⟨_, rfl, rfl, _⟩ <;> exact fun _ => guard_plain _ _ _ _ _ _ (.inl (by simp)) (.inl (by simp))
    · rcases key with ⟨rfl, rfl, _⟩ | ⟨_, rfl, rfl, _⟩ | ⟨_, rfl, rfl, _⟩ <;> exact ⟨rfl, rfl⟩
  · rename_i e hk
    have hu := ht.kslice _ hk
    split at h
    · cases hx; cases hy; cases h
      exact ⟨fun _ => guard_plain _ _ _ _ _ _ (.inl (by simp)) (.inl (by simp)), fun _ => eqIn_slice 9999 hu, rfl, rfl⟩
    · obtain ⟨_, A, l, c, rfl⟩ := hx
      cases hy; cases h
      exact ⟨fun _ => guard_plain _ _ _ _ _ _ (.inl (by simp)) (.inl (by simp)), fun _ => eqIn_slice1 9999 hu A l c, rfl, rfl⟩
    · cases h
  · rename_i hk
    obtain ⟨_, _, _, hu⟩ := ht.kfunc hk
    split at h
    · cases hx; cases hy; cases h
      exact ⟨fun _ => guard_plain _ _ _ _ _ _ (.inl (by simp)) (.inl (by simp)), fun _ => eqIn_func 9999 hu, rfl, rfl⟩
    · cases hy; obtain ⟨_, _, rfl, _⟩ := hx; cases h
      exact ⟨fun _ => guard_plain _ _ _ _ _ _ (.inl (by simp)) (.inl (by simp)), fun _ => eqIn_func1 9999 hu _ _ _, rfl, rfl⟩
    · cases hx; obtain ⟨_, _, rfl, _⟩ := hy; cases h
      exact ⟨fun _ => guard_plain _ _ _ _ _ _ (.inl (by simp)) (.inl (by simp)), fun _ => eqIn_func2 9999 hu _ _ _, rfl, rfl⟩
    · cases h
  · rename_i fs hk
    split at h
    · obtain ⟨xs, rfl, ha, _⟩ := hx
      obtain ⟨ys, rfl, hb, _⟩ := hy
      obtain ⟨he, h⟩ := bif_none h
      simp only [Bool.and_eq_true] at he
      have key : ∀ w2, _ := fun w2 => (ht.eqs he.1.1).2 w2 F μ _ _ _ _ r he.1.2 he.2 (eqCells_any w2 h ha hb).1 (eqCells_any w2 h ha hb).2 h
      exact ⟨fun w2 => guard_agg _ _ _ _ _ _ (key w2).1, fun w2 => (key w2).2, rfl, rfl⟩
    · cases h
  · split at h
    · obtain ⟨xs, rfl, ha, _⟩ := hx
      obtain ⟨ys, rfl, hb, _⟩ := hy
      obtain ⟨he, h⟩ := bif_none h
      simp only [Bool.and_eq_true] at he
      have key : ∀ w2, _ := fun w2 => (ht.eqs he.1.1).2 w2 F μ _ _ _ _ r he.1.2 he.2 (eqCells_any w2 h ha hb).1 (eqCells_any w2 h ha hb).2 h
      exact ⟨fun w2 => guard_agg _ _ _ _ _ _ (key w2).1, fun w2 => (key w2).2, rfl, rfl⟩
    · cases h
  · cases h

theorem bin_ok {ti : TI} {t : Nat} (ht : TyOk P t ti) (op : BinOp) (xo yo : Operand) {x y : AV} {vx vy : Value} {K : AV → Option ρ} (hx : AR w F μ x vx) (hy : AR w F μ y vy) (h : binStep op ti x y K = some fin) :
    Got P w F μ K fin (do eqGuard op t xo yo vx vy; binOp op t vx vy) := by
  unfold binStep at h
  split at h
  · rename_i k a k' b
    obtain ⟨rfl, ha⟩ := hx
    obtain ⟨rfl, hb⟩ := hy
    have hg : ∀ w2, (eqGuard op t xo yo (.int k a) (.int k' b)).run P w2 = .ok () w2 := fun _ => guard_plain _ _ _ _ _ _ (.inl (by simp)) (.inl (by simp))
    suffices hs : Got P w F μ K fin (binOp op t (.int k a) (.int k' b)) by
      obtain ⟨v, av, h1, h2, h3⟩ := hs
      exact ⟨v, av, fun w2 => by simp [hg, h1], h2, h3⟩
    split at h
    · obtain ⟨hn, h⟩ := bif_none' h
      have hn : ¬ b < 0 := by simpa using hn
      exact Got.of h (fun w => by simp only [binOp, Op.shift, hn, if_false]; rfl) ⟨rfl, okI_wrap _ _⟩
    · obtain ⟨hn, h⟩ := bif_none' h
      have hn : ¬ b < 0 := by simpa using hn
      refine Got.of h (fun w => by simp only [binOp, Op.shift, hn, if_false]; rfl) ⟨rfl, fun hk => ?_⟩
      have h1 := ha hk
      have hp : (0 : Int) < 2 ^ (min b.toNat k.bits) := Int.pow_pos (by omega)
      rw [Int.fdiv_eq_ediv_of_nonneg _ (Int.le_of_lt hp)]
      constructor
      · exact Int.ediv_nonneg h1.1 (Int.le_of_lt hp)
      · exact Int.le_trans (Int.ediv_le_self _ h1.1) h1.2
    · rename_i hs1 hs2
      obtain ⟨hk, h2⟩ := bif_none h
      have hk : k = k' := by simpa using hk
      clear h
      subst hk
      have := int_arith (P := P) (w := w) (F := F) (μ := μ) op k a b ha hb h2
      cases op <;> first | exact absurd rfl (hs1) | exact absurd rfl (hs2) | (simp only [binOp]; simpa using this)
  · cases hx; cases hy
    have hg : ∀ a b w2, (eqGuard op t xo yo (.string a) (.string b)).run P w2 = .ok () w2 := fun a b _ => guard_plain _ _ _ _ _ _ (.inl (by simp)) (.inl (by simp))
    obtain ⟨v, av, h1, h2, h3⟩ := str_bin (P := P) (w := w) (F := F) (μ := μ) _ _ _ h
    refine ⟨v, av, fun w2 => ?_, h2, h3⟩
    have h1 := h1 w2
    simp only [Sem.run_bind, hg, Result.andThen_ok]
    cases op <;> first | exact h1 | (simp [Op.stringOp] at h1)
  · rename_i hn1 hn2
    split at h
    · split at h
      · rename_i r hr
        obtain ⟨h1, h2, h3, _⟩ := equal_kinds ht hx hy hr .eql xo yo
        exact ⟨.bool r, .bool r, by simp [h1, h3, h2], rfl, h⟩
      · cases h
    · split at h
      · rename_i r hr
        obtain ⟨h1, h2, _, h3⟩ := equal_kinds ht hx hy hr .neq xo yo
        exact ⟨.bool (!r), .bool (!r), by simp [h1, h3, h2], rfl, h⟩
      · cases h
    · cases h

theorem min_ok {x y : AV} {vx vy : Value} {K : AV → Option ρ} (hx : AR w F μ x vx) (hy : AR w F μ y vy) (h : minStep x y K = some fin) : Got P w F μ K fin (Builtin.min2 vx vy) := by
  unfold minStep at h
  split at h
  · obtain ⟨rfl, ha⟩ := hx
    obtain ⟨rfl, hb⟩ := hy
    obtain ⟨hk, h2⟩ := bif_none h
    have hk := of_decide_eq_true hk
    clear h
    subst hk
    refine Got.of h2 (fun _ => rfl) ⟨rfl, fun hk => ?_⟩
    split
    · exact hb hk
    · exact ha hk
  · cases hx; cases hy
    rename_i a b
    obtain ⟨v, av, h1, h2, h3⟩ := str_bin (P := P) (w := w) (F := F) (μ := μ) .leq a b (K := fun x => match x with | .bool c => K (.str (bif c then a else b)) | _ => none) (by simpa [strBin] using h)
    cases av <;> simp at h3
    rename_i c
    cases h2
    refine Got.of h3 (v := .string (if c = true then ⟨a.toArray⟩ else ⟨b.toArray⟩)) (fun w => by simp [Builtin.min2, h1, asBool]) ?_
    cases c <;> rfl
  · cases h

theorem max_ok {x y : AV} {vx vy : Value} {K : AV → Option ρ} (hx : AR w F μ x vx) (hy : AR w F μ y vy) (h : maxStep x y K = some fin) : Got P w F μ K fin (Builtin.max2 vx vy) := by
  unfold maxStep at h
  split at h
  · obtain ⟨rfl, ha⟩ := hx
    obtain ⟨rfl, hb⟩ := hy
    obtain ⟨hk, h2⟩ := bif_none h
    have hk := of_decide_eq_true hk
    clear h
    subst hk
    refine Got.of h2 (fun _ => rfl) ⟨rfl, fun hk => ?_⟩
    split
    · exact hb hk
    · exact ha hk
  · cases hx; cases hy
    rename_i a b
    obtain ⟨v, av, h1, h2, h3⟩ := str_bin (P := P) (w := w) (F := F) (μ := μ) .geq a b (K := fun x => match x with | .bool c => K (.str (bif c then a else b)) | _ => none) (by simpa [strBin] using h)
    cases av <;> simp at h3
    rename_i c
    cases h2
    refine Got.of h3 (v := .string (if c = true then ⟨a.toArray⟩ else ⟨b.toArray⟩)) (fun w => by simp [Builtin.max2, h1, asBool]) ?_
    cases c <;> rfl
  · cases h
end
end Go.Ai
