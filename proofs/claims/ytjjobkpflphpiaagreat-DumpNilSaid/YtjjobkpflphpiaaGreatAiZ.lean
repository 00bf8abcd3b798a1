/- Numbers of the machine, within bounds. -/
import Derived.Test.YtjjobkpflphpiaaGreatAiV
set_option linter.unusedVariables false
set_option linter.unusedSimpArgs false
namespace Go.Ai

theorem wrap_u8 {n : Int} (h0 : 0 ≤ n) (h1 : n < 256) : IntKind.wrap .u8 n = n := by
  simp only [IntKind.wrap, IntKind.signed, IntKind.bits]; simp; omega
theorem wrap_u16 {n : Int} (h0 : 0 ≤ n) (h1 : n < 65536) : IntKind.wrap .u16 n = n := by
  simp only [IntKind.wrap, IntKind.signed, IntKind.bits]; simp; omega
theorem wrap_u32 {n : Int} (h0 : 0 ≤ n) (h1 : n < 4294967296) : IntKind.wrap .u32 n = n := by
  simp only [IntKind.wrap, IntKind.signed, IntKind.bits]; simp; omega
theorem wrap_u64 {n : Int} (h0 : 0 ≤ n) (h1 : n < 18446744073709551616) : IntKind.wrap .u64 n = n := by
  simp only [IntKind.wrap, IntKind.signed, IntKind.bits]; simp; omega
theorem wrap_i64 {n : Int} (h0 : -9223372036854775808 ≤ n) (h1 : n < 9223372036854775808) : IntKind.wrap .i64 n = n := by
  simp only [IntKind.wrap, IntKind.signed, IntKind.bits]; simp; omega
theorem wrap_u8_mod (n : Int) : IntKind.wrap .u8 n = n % 256 := by
  simp only [IntKind.wrap, IntKind.signed, IntKind.bits]; simp
theorem wrap_u32_mod (n : Int) : IntKind.wrap .u32 n = n % 4294967296 := by
  simp only [IntKind.wrap, IntKind.signed, IntKind.bits]; simp

theorem bv_nat (w a : Nat) (h : a < 2 ^ w) : (BitVec.ofInt w (a : Int)).toNat = a := by
  rw [BitVec.ofInt_natCast, BitVec.toNat_ofNat, Nat.mod_eq_of_lt h]
theorem xor_u32 {a b : Nat} (ha : a < 4294967296) (hb : b < 4294967296) : IntKind.wrap .u32 (((BitVec.ofInt 32 (a : Int) ^^^ BitVec.ofInt 32 (b : Int)).toNat : Nat) : Int) = ((a ^^^ b : Nat) : Int) := by
  rw [BitVec.toNat_xor, bv_nat 32 a ha, bv_nat 32 b hb]
  have : a ^^^ b < 2 ^ 32 := Nat.xor_lt_two_pow ha hb
  exact wrap_u32 (by omega) (by omega)
theorem and_u32 {a b : Nat} (ha : a < 4294967296) (hb : b < 4294967296) : IntKind.wrap .u32 (((BitVec.ofInt 32 (a : Int) &&& BitVec.ofInt 32 (b : Int)).toNat : Nat) : Int) = ((a &&& b : Nat) : Int) := by
  rw [BitVec.toNat_and, bv_nat 32 a ha, bv_nat 32 b hb]
  have : a &&& b < 2 ^ 32 := Nat.and_lt_two_pow _ hb
  exact wrap_u32 (by omega) (by omega)
theorem or_u64 {a b : Nat} (ha : a < 18446744073709551616) (hb : b < 18446744073709551616) : IntKind.wrap .u64 (((BitVec.ofInt 64 (a : Int) ||| BitVec.ofInt 64 (b : Int)).toNat : Nat) : Int) = ((a ||| b : Nat) : Int) := by
  rw [BitVec.toNat_or, bv_nat 64 a ha, bv_nat 64 b hb]
  have : a ||| b < 2 ^ 64 := Nat.or_lt_two_pow ha hb
  exact wrap_u64 (by omega) (by omega)
theorem fdiv_nat (a k : Nat) : Int.fdiv (a : Int) ((2 : Int) ^ k) = ((a / 2 ^ k : Nat) : Int) := by
  rw [Int.fdiv_eq_ediv_of_nonneg _ (Int.le_of_lt (Int.pow_pos (by omega)))]
  norm_cast
theorem inb_nat {k n : Nat} (h : k < n) : inb (k : Int) n = true := by
  unfold inb; simp; omega
theorem getD_of {α : Type} {l : List α} {k : Nat} {d : α} (h : k < l.length) : l.getD k d = l[k] := by
  rw [List.getD_eq_getElem?_getD, List.getElem?_eq_getElem h]; rfl

/-- A condition that stands still while the kernel reckons. -/
noncomputable def gd (p : Prop) : Bool := @decide p (Classical.propDecidable p)
theorem gd_t {p : Prop} (h : p) : gd p = true := by unfold gd; exact @decide_eq_true p (Classical.propDecidable p) h
theorem gd_is {p : Prop} (h : gd p = true) : p := by unfold gd at h; exact @of_decide_eq_true p (Classical.propDecidable p) h
/-- Within a range; not too long. -/
noncomputable def rg (i : Int) (n : Nat) : Bool := gd (0 ≤ i ∧ i < (n : Int))
noncomputable def lg {α : Type} (l : List α) : Bool := gd (l.length ≤ 4294967296)
theorem rg_t {k n : Nat} (h : k < n) : rg (k : Int) n = true := gd_t ⟨by omega, by omega⟩
theorem rg_is {i : Int} {n : Nat} (h : rg i n = true) : ∃ k : Nat, i = (k : Int) ∧ k < n := by
  have := gd_is h
  exact ⟨i.toNat, by omega, by omega⟩
theorem lg_t {α : Type} {l : List α} (h : l.length ≤ 4294967296) : lg l = true := gd_t h
theorem lg_is {α : Type} {l : List α} (h : lg l = true) : l.length ≤ 4294967296 := gd_is h

/-- A summary of a function by its text, at any fuel. -/
theorem use {P : Program} (hm : P.follows .mixedOrders = true) {E : Env} (hE : EnvOk P E) {f : Nat} {fn : Func} (hf : P.funcs[f]? = some fn) (hname : (fn.name == "runtime.NumGoroutine") = false) {S : Summ}
    (h : ∀ (ρ : Type) (fin : ρ) (args : List AV) (hp : List (Nat × AO)) (K : AV → List (Nat × AO) → Nat → Option ρ), S ρ args hp K = some fin → ∃ ann pl fu, aFun E ann pl fu fn args hp hp.length K = some fin) : SpecOk P f S := by
  intro ρ fin args hp K hk
  obtain ⟨ann, pl, fu, h2⟩ := h ρ fin args hp K hk
  exact fun_ok hm hE hf hname ann pl fu ρ fin args hp K h2

theorem bif_t {α : Type} {b : Bool} {x : Option α} {y : α} (h : (bif b then x else none) = some y) : b = true ∧ x = some y := bif_none h

/-- Summaries of a list are right. -/
theorem oks_nil {P : Program} : ∀ p ∈ ([] : List (Nat × Summ)), SpecOk P p.1 p.2 := fun _ h => by cases h
theorem oks_cons {P : Program} {f : Nat} {S : Summ} {l : List (Nat × Summ)} (h : SpecOk P f S) (hl : ∀ p ∈ l, SpecOk P p.1 p.2) : ∀ p ∈ (f, S) :: l, SpecOk P p.1 p.2 := by
  intro p hp
  rcases List.mem_cons.1 hp with rfl | hp
  · exact h
  · exact hl p hp
end Go.Ai
