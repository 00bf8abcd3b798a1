/- What abstract values, heaps and states say of the machine's world. -/
import Derived.Test.YtjjobkpflphpiaaGreatAiA
import Derived.Calls
import Derived.Orders
import Derived.Below
import Derived.Laws.Sem
import Derived.Laws.Cells
import Derived.Laws.IdiomCopy
set_option linter.unusedVariables false
namespace Go.Ai

/-- The place of an object. -/
structure Pl where
  blk : Option Nat
  sh : Nat
  adr : Option Addr
  len : Nat
  cap : Nat
  sz : Nat
  ok : cap ≤ 9223372036854775807

/-- The slice of a row. -/
def Pl.val (p : Pl) : Value := .slice p.adr p.len p.cap

def okI (k : IntKind) (n : Int) : Prop := k = .u8 → 0 ≤ n ∧ n ≤ 255

/-- Data, as cells; all that is read beyond lies in F. -/
def Rp (w : World) (F : Nat → Prop) : (t : Ty) → t.D → List Value → Prop
  | .int k, n, cs => cs = [.int k n] ∧ okI k n
  | .byte, b, cs => cs = [.int .u8 (UInt8.toNat b)]
  | .bool, b, cs => cs = [.bool b]
  | .str, s, cs => cs = [.string ⟨List.toArray s⟩]
  | .list t, xs, cs => ∃ A c, cs = [.slice A (List.length xs) c] ∧ (List.length xs ≤ c ∧ (A = none → c = 0)) ∧
      ∀ (i : Nat) (x : t.D), (show List t.D from xs)[i]? = some x → ∃ b off ys, A = some ⟨b, off, none⟩ ∧ F b ∧ Rp w F t x ys ∧ ys.length = t.sz ∧
        ∀ j u, ys[j]? = some u → w.cell? ⟨b, off + i * t.sz + j, none⟩ = some u
  | .prod a b, p, cs => ∃ c1 c2, cs = c1 ++ c2 ∧ Rp w F a p.1 c1 ∧ Rp w F b p.2 c2

mutual
def AR (w : World) (F : Nat → Prop) (μ : Nat → Option Pl) : AV → Value → Prop
  | .und, _ => True
  | .bool b, v => v = .bool b
  | .int k n, v => v = .int k n ∧ okI k n
  | .str s, v => v = .string ⟨s.toArray⟩
  | .nilp, v => v = .pointer none
  | .nils, v => v = .slice none 0 0
  | .nilf, v => v = .nilFunc
  | .sl t xs, v => Rp w F (.list t) xs [v]
  | .sn t xs, v => Rp w F (.list t) xs [v] ∧ ∃ A l c, v = .slice (some A) l c
  | .cp cs, v => ∃ b off vs, v = .pointer (some ⟨b, off, none⟩) ∧ F b ∧ ARs w F μ cs vs ∧ (∀ u ∈ vs, u.oneCell' = true) ∧ ∀ j u, vs[j]? = some u → w.cell? ⟨b, off + j, none⟩ = some u
  | .agg cs, v => ∃ vs, v = .agg (List.toArray vs) ∧ ARs w F μ cs vs ∧ ∀ u ∈ vs, u.oneCell' = true
  | .tup cs, v => ∃ vs, v = .tuple (List.toArray vs) ∧ ARs w F μ cs vs
  | .func f a c, v => ∃ as cs, v = .func (.func f) (List.toArray as) (List.toArray cs) ∧ ARs w F μ a as ∧ ARs w F μ c cs
  | .ptr id off, v => ∃ p b, μ id = some p ∧ p.blk = some b ∧ v = .pointer (some ⟨b, off, none⟩)
  | .ept id i off, v => ∃ p b, μ id = some p ∧ p.blk = some b ∧ i < p.len ∧ v = .pointer (some ⟨b, p.sh + i * p.sz + off, none⟩)
  | .own id, v => ∃ p, μ id = some p ∧ v = p.val
def ARs (w : World) (F : Nat → Prop) (μ : Nat → Option Pl) : List AV → List Value → Prop
  | [], vs => vs = []
  | a :: r, vs => ∃ v vr, vs = v :: vr ∧ AR w F μ a v ∧ ARs w F μ r vr
end

theorem Ty.sz_pos : ∀ t : Ty, 0 < t.sz
  | .int _ => Nat.one_pos
  | .byte => Nat.one_pos
  | .bool => Nat.one_pos
  | .str => Nat.one_pos
  | .list _ => Nat.one_pos
  | .prod a b => by have := Ty.sz_pos a; simp only [Ty.sz]; omega

theorem Rp_len {w : World} {F : Nat → Prop} : ∀ {t : Ty} {x : t.D} {cs : List Value}, Rp w F t x cs → cs.length = t.sz
  | .int _, _, _, h => by rw [h.1]; rfl
  | .byte, _, _, h => by cases h; rfl
  | .bool, _, _, h => by cases h; rfl
  | .str, _, _, h => by cases h; rfl
  | .list _, _, _, h => by obtain ⟨_, _, rfl, _⟩ := h; rfl
  | .prod a b, _, _, h => by
    obtain ⟨c1, c2, rfl, h1, h2⟩ := h
    rw [List.length_append, Rp_len h1, Rp_len h2]; rfl

/-- The blocks of F stay as they are. -/
def Stays (F : Nat → Prop) (w w' : World) : Prop := ∀ b, F b → w'.heap[b]? = w.heap[b]?

theorem Stays.refl (F : Nat → Prop) (w : World) : Stays F w w := fun _ _ => rfl
theorem Stays.cell {F : Nat → Prop} {w w' : World} (h : Stays F w w') {b o : Nat} (hb : F b) : w'.cell? ⟨b, o, none⟩ = w.cell? ⟨b, o, none⟩ := by
  simp only [World.cell?, h b hb]

theorem Rp_mono {w w' : World} {F F' : Nat → Prop} (hF : ∀ b, F b → F' b) (hw : Stays F w w') : ∀ {t : Ty} {x : t.D} {cs : List Value}, Rp w F t x cs → Rp w' F' t x cs
  | .int _, _, _, h => h
  | .byte, _, _, h => h
  | .bool, _, _, h => h
  | .str, _, _, h => h
  | .list t, xs, _, h => by
    obtain ⟨A, c, rfl, hl, he⟩ := h
    refine ⟨A, c, rfl, hl, fun i x hi => ?_⟩
    obtain ⟨b, off, ys, hA, hb, hr, hy, hc⟩ := he i x hi
    exact ⟨b, off, ys, hA, hF b hb, Rp_mono hF hw hr, hy, fun j u hj => by rw [hw.cell hb]; exact hc j u hj⟩
  | .prod a b, _, _, h => by
    obtain ⟨c1, c2, rfl, h1, h2⟩ := h
    exact ⟨c1, c2, rfl, Rp_mono hF hw h1, Rp_mono hF hw h2⟩

mutual
theorem AR_mono {w w' : World} {F F' : Nat → Prop} {μ μ' : Nat → Option Pl} (hF : ∀ b, F b → F' b) (hw : Stays F w w') (hμ : ∀ id p, μ id = some p → μ' id = some p) :
    ∀ (x : AV) (v : Value), AR w F μ x v → AR w' F' μ' x v
  | .und, _, _ => trivial
  | .bool _, _, h => h
  | .int _ _, _, h => h
  | .str _, _, h => h
  | .nilp, _, h => h
  | .nils, _, h => h
  | .nilf, _, h => h
  | .sl t xs, v, h => Rp_mono hF hw (t := .list t) h
  | .sn t xs, v, h => ⟨Rp_mono hF hw (t := .list t) h.1, h.2⟩
  | .cp cs, v, h => by
    obtain ⟨b, off, vs, hv, hb, hcs, ho, hc⟩ := h
    exact ⟨b, off, vs, hv, hF b hb, ARs_mono hF hw hμ cs vs hcs, ho, fun j u hj => by rw [hw.cell hb]; exact hc j u hj⟩
  | .agg cs, v, h => by
    obtain ⟨vs, hv, hcs, ho⟩ := h
    exact ⟨vs, hv, ARs_mono hF hw hμ cs vs hcs, ho⟩
  | .tup cs, v, h => by
    obtain ⟨vs, hv, hcs⟩ := h
    exact ⟨vs, hv, ARs_mono hF hw hμ cs vs hcs⟩
  | .func f a c, v, h => by
    obtain ⟨as, cs, hv, h1, h2⟩ := h
    exact ⟨as, cs, hv, ARs_mono hF hw hμ a as h1, ARs_mono hF hw hμ c cs h2⟩
  | .ptr id off, v, h => by
    obtain ⟨p, b, h1, h2⟩ := h
    exact ⟨p, b, hμ _ _ h1, h2⟩
  | .ept id i off, v, h => by
    obtain ⟨p, b, h1, h2⟩ := h
    exact ⟨p, b, hμ _ _ h1, h2⟩
  | .own id, v, h => by
    obtain ⟨p, h1, h2⟩ := h
    exact ⟨p, hμ _ _ h1, h2⟩
theorem ARs_mono {w w' : World} {F F' : Nat → Prop} {μ μ' : Nat → Option Pl} (hF : ∀ b, F b → F' b) (hw : Stays F w w') (hμ : ∀ id p, μ id = some p → μ' id = some p) :
    ∀ (xs : List AV) (vs : List Value), ARs w F μ xs vs → ARs w' F' μ' xs vs
  | [], _, h => h
  | x :: r, vs, h => by
    obtain ⟨v, vr, rfl, h1, h2⟩ := h
    exact ⟨v, vr, rfl, AR_mono hF hw hμ x v h1, ARs_mono hF hw hμ r vr h2⟩
end

theorem ARs_len {w : World} {F : Nat → Prop} {μ : Nat → Option Pl} : ∀ {xs : List AV} {vs : List Value}, ARs w F μ xs vs → vs.length = xs.length
  | [], _, h => by cases h; rfl
  | _ :: r, _, h => by obtain ⟨v, vr, rfl, _, h2⟩ := h; simp [ARs_len h2]

theorem ARs_app {w : World} {F : Nat → Prop} {μ : Nat → Option Pl} : ∀ {xs ys : List AV} {vs us : List Value}, ARs w F μ xs vs → ARs w F μ ys us → ARs w F μ (xs ++ ys) (vs ++ us)
  | [], _, _, _, h, h' => by cases h; exact h'
  | x :: r, ys, _, us, h, h' => by
    obtain ⟨v, vr, rfl, h1, h2⟩ := h
    exact ⟨v, vr ++ us, rfl, h1, ARs_app h2 h'⟩

theorem ARs_get {w : World} {F : Nat → Prop} {μ : Nat → Option Pl} : ∀ {xs : List AV} {vs : List Value} {i : Nat} {x : AV}, ARs w F μ xs vs → xs[i]? = some x → ∃ v, vs[i]? = some v ∧ AR w F μ x v
  | [], _, _, _, _, h => by simp at h
  | y :: r, _, 0, x, h, hx => by
    obtain ⟨v, vr, rfl, h1, h2⟩ := h
    simp at hx; subst hx
    exact ⟨v, rfl, h1⟩
  | y :: r, _, i + 1, x, h, hx => by
    obtain ⟨v, vr, rfl, h1, h2⟩ := h
    simp at hx
    obtain ⟨u, hu, ha⟩ := ARs_get h2 hx
    exact ⟨u, by simpa using hu, ha⟩

theorem ARs_take {w : World} {F : Nat → Prop} {μ : Nat → Option Pl} : ∀ {xs : List AV} {vs : List Value} (n : Nat), ARs w F μ xs vs → ARs w F μ (xs.take n) (vs.take n)
  | _, _, 0, _ => by simp [ARs]
  | [], _, n + 1, h => by cases h; simp [ARs]
  | x :: r, _, n + 1, h => by
    obtain ⟨v, vr, rfl, h1, h2⟩ := h
    exact ⟨v, vr.take n, rfl, h1, ARs_take n h2⟩

theorem ARs_drop {w : World} {F : Nat → Prop} {μ : Nat → Option Pl} : ∀ {xs : List AV} {vs : List Value} (n : Nat), ARs w F μ xs vs → ARs w F μ (xs.drop n) (vs.drop n)
  | _, _, 0, h => by simpa using h
  | [], _, n + 1, h => by cases h; simp [ARs]
  | x :: r, _, n + 1, h => by
    obtain ⟨v, vr, rfl, h1, h2⟩ := h
    simpa using ARs_drop n h2

theorem ARs_repl {w : World} {F : Nat → Prop} {μ : Nat → Option Pl} {xs ys : List AV} {vs us : List Value} (off : Nat) (h : ARs w F μ xs vs) (h' : ARs w F μ ys us) :
    ARs w F μ (repl xs off ys) (vs.take off ++ us ++ vs.drop (off + us.length)) := by
  unfold repl
  rw [← ARs_len h']
  exact ARs_app (ARs_app (ARs_take off h) h') (ARs_drop _ h)

/-- What an object is in the world. -/
def RowR (w : World) (F : Nat → Prop) (p : Pl) (t : Ty) (xs : List t.D) : Prop :=
  p.sz = t.sz ∧
  ((p.blk = none ∧ p.adr = none ∧ p.len = 0 ∧ p.cap = 0 ∧ xs = []) ∨
  ∃ b c e lo hi, p.blk = some b ∧ p.adr = some ⟨b, p.sh, none⟩ ∧ p.len = xs.length ∧ xs.length ≤ p.cap ∧ w.heap[b]? = some (.cells c e (lo, hi)) ∧
    (∀ o, o < c.size → ¬ (lo ≤ o ∧ o < hi)) ∧ p.sh + p.cap * t.sz ≤ c.size ∧
    ∀ (i : Nat) (x : t.D), xs[i]? = some x → ∃ ys, Rp w F t x ys ∧ ys.length = t.sz ∧ ∀ j u, ys[j]? = some u → c[p.sh + i * t.sz + j]? = some u)

def BoxR (w : World) (F : Nat → Prop) (μ : Nat → Option Pl) (p : Pl) (cs : List AV) : Prop :=
  ∃ b c e lo hi, p.blk = some b ∧ w.heap[b]? = some (.cells c e (lo, hi)) ∧ (∀ o, o < c.size → ¬ (lo ≤ o ∧ o < hi)) ∧ ARs w F μ cs c.toList ∧ ∀ u ∈ c.toList, u.oneCell' = true

def ObjR (w : World) (F : Nat → Prop) (μ : Nat → Option Pl) (id : Nat) : AO → Prop
  | .gone => True
  | .box cs => ∃ p, μ id = some p ∧ BoxR w F μ p cs
  | .fbox cs => ∃ p, μ id = some p ∧ BoxR w F μ p cs ∧ ∀ b, p.blk = some b → F b
  | .row t xs => ∃ p, μ id = some p ∧ RowR w F p t xs
  | .frow t xs => ∃ p, μ id = some p ∧ RowR w F p t xs ∧ ∀ b, p.blk = some b → F b

def AO.mine : AO → Bool
  | .box _ => true
  | .row _ _ => true
  | _ => false

/-- Block b is the object's, which may be written. -/
def Owns (μ : Nat → Option Pl) (hp : List (Nat × AO)) (id b : Nat) : Prop := (lookO hp id).mine = true ∧ ∃ p, μ id = some p ∧ p.blk = some b

structure Rl (w : World) (F : Nat → Prop) (μ : Nat → Option Pl) (hp : List (Nat × AO)) (nx : Nat) : Prop where
  obj : ∀ id, ObjR w F μ id (lookO hp id)
  one : ∀ id id' b, Owns μ hp id b → Owns μ hp id' b → id = id'
  dis : ∀ id b, Owns μ hp id b → ¬ F b
  fsz : ∀ b, F b → b < w.heap.size
  fresh : ∀ id, nx ≤ id → lookO hp id = .gone
  unset : ∀ id, nx ≤ id → μ id = none

/-- Where a function's run began: what it may not change. -/
structure Base where
  w : World
  F : Nat → Prop
  O : Nat → Prop
  n0 : Nat
  μ0 : Nat → Option Pl

structure Ext (B : Base) (w : World) (F : Nat → Prop) (μ : Nat → Option Pl) (hp : List (Nat × AO)) : Prop where
  size : B.w.heap.size ≤ w.heap.size
  keep : ∀ b, b < B.w.heap.size → ¬ B.O b → w.heap[b]? = B.w.heap[b]?
  fge : ∀ b, B.F b → F b
  fle : ∀ b, F b → B.F b ∨ B.O b ∨ B.w.heap.size ≤ b
  ole : ∀ id b, Owns μ hp id b → B.O b ∨ B.w.heap.size ≤ b
  os : w.os = B.w.os
  tape : w.tape = B.w.tape
  output : w.output = B.w.output
  root : ∀ k, k < B.n0 → ∀ p, B.μ0 k = some p → μ k = some p

structure Rel (B : Base) (w : World) (F : Nat → Prop) (μ : Nat → Option Pl) (s : St) (a : Act) : Prop where
  heap : Rl w F μ s.hp s.nx
  tm : ∀ t, AR w F μ (lookV s.tm t) (a.tmps.getD t undef)
  n : a.tmps.size = s.n
  df : a.defers = []
  ext : Ext B w F μ s.hp
end Go.Ai
