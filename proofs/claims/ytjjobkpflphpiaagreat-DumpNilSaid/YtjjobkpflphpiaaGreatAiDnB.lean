/- Readers: summaries. -/
import Derived.Test.YtjjobkpflphpiaaGreatAiDnA
set_option maxRecDepth 100000
set_option linter.unusedVariables false
set_option linter.unusedSimpArgs false
namespace Go.Ai.Dn

/-- A number's bytes, the highest first. -/
def beF (v : Nat) (l : List UInt8) : Nat := l.foldl (fun n c => 256 * n + c.toNat) v
def takeV (b : List UInt8) (a e n : Int) : Int := if e = 0 ∧ a + n ≤ b.length then (beF 0 ((b.drop a.toNat).take n.toNat) : Nat) else 0
def takeA (b : List UInt8) (a e n : Int) : Int := if e = 0 ∧ a + n ≤ b.length then a + n else a
def takeE (b : List UInt8) (a e n : Int) : Int := if e = 0 then (if a + n ≤ b.length then 0 else 2) else e
noncomputable def rdOk (b : List UInt8) (a : Int) : Bool := lg b && rg a (b.length + 1)

theorem rdOk_is {b : List UInt8} {a : Int} (h : rdOk b a = true) : ∃ k : Nat, a = k ∧ k ≤ b.length ∧ b.length ≤ 4294967296 := by
  unfold rdOk at h
  rw [Bool.and_eq_true] at h
  obtain ⟨k, rfl, hk⟩ := rg_is h.2
  exact ⟨k, rfl, by omega, lg_is h.1⟩

theorem pow256 {k : Nat} (h : k < 8) : 256 ^ k * 256 ≤ 18446744073709551616 := by
  have : 256 ^ k * 256 = 256 ^ (k + 1) := (Nat.pow_succ ..).symm
  rw [this]
  exact Nat.pow_le_pow_right (by omega) (show k + 1 ≤ 8 by omega)

theorem step_lt {k v : Nat} (c : UInt8) (h : v < 256 ^ k) : 256 * v + c.toNat < 256 ^ (k + 1) := by
  have := UInt8.toNat_lt c
  rw [Nat.pow_succ]
  omega

theorem or_add (v : Nat) (c : UInt8) : (v * 256) ||| c.toNat = 256 * v + c.toNat := by
  have h := Nat.two_pow_add_eq_or_of_lt (i := 8) (b := c.toNat) (by have := UInt8.toNat_lt c; omega) v
  rw [Nat.mul_comm v 256]
  exact h.symm

theorem l109 {ρ : Type} (fu : Nat) (K : AV → List (Nat × AO) → Nat → Option ρ) (n : Int) (s b : List UInt8) (a e : Int) (hs : s.length ≤ 8) : ∀ (f k v : Nat), s.length + 1 ≤ k + f → k ≤ s.length → v < 256 ^ k →
    l109_8 fu K f (v : Int) (k : Int) (s.length : Int) n s b a e = K (.int .u64 ((beF v (s.drop k) : Nat) : Int)) [(0, .box [.sl .byte b, .int .i64 (IntKind.wrap .i64 (a + n)), .int .i64 e])] 1 ∨ f = 0
  | 0, _, _, _, _, _ => .inr rfl
  | f + 1, k, v, hf, hk, hv => by
    left
    rw [s109_8]
    by_cases h : k < s.length
    · have h1 : decide ((k : Int) < (s.length : Int)) = true := by simp; omega
      have hp := pow256 (show k < 8 by omega)
      have hc := UInt8.toNat_lt s[k]
      have hv2 : 256 * v < 18446744073709551616 := by omega
      have e1 : IntKind.wrap .u64 ((v : Int) * (256 : Int)) = ((v * 256 : Nat) : Int) := by
        rw [wrap_u64 (by omega) (by omega)]; omega
      have e2 : IntKind.wrap .u64 ((s[k].toNat : Nat) : Int) = ((s[k].toNat : Nat) : Int) := wrap_u64 (by omega) (by omega)
      rw [h1, cond_true, inb_nat h, cond_true, Int.toNat_natCast, getD_of h, e1, e2, or_u64 (by omega) (by omega), or_add, wrap_i64 (by omega) (by omega)]
      rcases l109 fu K n s b a e hs f (k + 1) _ (by omega) (by omega) (step_lt s[k] hv) with h3 | h3
      · rw [show ((k : Int) + 1) = ((k + 1 : Nat) : Int) by omega, h3]
        have : s.drop k = s[k] :: s.drop (k + 1) := List.drop_eq_getElem_cons h
        rw [this]
        rfl
      · omega
    · have h1 : decide ((k : Int) < (s.length : Int)) = false := by simp; omega
      rw [h1, cond_false, List.drop_eq_nil_of_le (by omega)]
      rfl

def rdBox (b : List UInt8) (a e : Int) : List (Nat × AO) := [(0, .box [.sl .byte b, .int .i64 a, .int .i64 e])]

noncomputable def v109 {ρ : Type} (K : AV → List (Nat × AO) → Nat → Option ρ) (b : List UInt8) (a e n : Int) : Option ρ :=
  bif rdOk b a && rg n 9 then K (.int .u64 (takeV b a e n)) [(0, .box [.sl .byte b, .int .i64 (takeA b a e n), .int .i64 (takeE b a e n)])] 1 else none
noncomputable def S109 : Summ := fun ρ args hp K => match args, hp with
  | [.ptr 0 0, .int .i64 n], [(0, .box [.sl .byte b, .int .i64 a, .int .i64 e])] => v109 K b a e n
  | _, _ => none
theorem a109 {ρ : Type} {fin : ρ} (K : AV → List (Nat × AO) → Nat → Option ρ) (b : List UInt8) (a e n : Int) (h : v109 K b a e n = some fin) : aFun E0 ann109 pl109 10 Go.Proofs.Tryz.f109 [.ptr 0 0, .int .i64 n] [(0, .box [.sl .byte b, .int .i64 a, .int .i64 e])] 1 K = some fin := by
  obtain ⟨hg, h⟩ := bif_t h
  rw [Bool.and_eq_true] at hg
  obtain ⟨k, rfl, hk, hl⟩ := rdOk_is hg.1
  obtain ⟨n, rfl, hn⟩ := rg_is hg.2
  rw [e109, ← h]
  unfold takeV takeA takeE
  by_cases he : e = 0
  · subst he
    have h1 : ((0 : Int) != 0) = false := rfl
    rw [h1, cond_false, wrap_i64 (n := ((b.length : Int) - (k : Int))) (by omega) (by omega)]
    by_cases hs : k + n ≤ b.length
    · have h2 : decide ((n : Int) > (b.length : Int) - (k : Int)) = false := by simp; omega
      have h3 : (0 : Int) = 0 ∧ (k : Int) + (n : Int) ≤ b.length := ⟨rfl, by omega⟩
      have h4 : (k : Int) + (n : Int) ≤ b.length := h3.2
      rw [h2, cond_false, if_pos h3, if_pos h3, if_pos rfl, if_pos h4, wrap_i64 (n := ((k : Int) + (n : Int))) (by omega) (by omega)]
      have h5 : (decide ((0 : Int) ≤ (k : Int) + (n : Int)) && decide ((k : Int) + (n : Int) ≤ (b.length : Int))) = true := by simp; omega
      have h6 : (decide ((0 : Int) ≤ (k : Int)) && decide ((k : Int) ≤ ((((k : Int) + (n : Int)).toNat : Nat) : Int))) = true := by simp; omega
      have h7 : ((k : Int) + (n : Int)).toNat = k + n := by omega
      rw [h5, cond_true, h6, cond_true, h7, Int.toNat_natCast, Int.toNat_natCast]
      have h8 : (b.take (k + n)).drop k = (b.drop k).take n := by rw [List.drop_take]; congr 1; omega
      rw [h8]
      have hlen : ((b.drop k).take n).length = n := by rw [List.length_take, List.length_drop]; omega
      rcases l109 10 K n ((b.drop k).take n) b k 0 (by omega) 10 0 0 (by omega) (by omega) (by simp) with h9 | h9
      · refine Eq.trans h9 ?_
        rw [List.drop_zero, wrap_i64 (by omega) (by omega)]
      · omega
    · have h2 : decide ((n : Int) > (b.length : Int) - (k : Int)) = true := by simp; omega
      have h3 : ¬ ((0 : Int) = 0 ∧ (k : Int) + (n : Int) ≤ b.length) := by omega
      have h4 : ¬ ((k : Int) + (n : Int) ≤ b.length) := by omega
      rw [h2, cond_true, if_neg h3, if_neg h3, if_pos rfl, if_neg h4]
  · have h1 : (e != 0) = true := by simp [he]
    have h3 : ¬ (e = 0 ∧ (k : Int) + (n : Int) ≤ b.length) := fun h => he h.1
    rw [h1, cond_true, if_neg h3, if_neg h3, if_neg he]
theorem ok109 : SpecOk Go.Proofs.Tryz.prog 109 S109 := use mixed env0 Go.Proofs.Tryz.func109 (by kernel_rfl) (by
  intro ρ fin args hp K h
  unfold S109 at h
  split at h
  · exact ⟨_, _, _, a109 K _ _ _ _ h⟩
  · cases h)

noncomputable def S68 : Summ := fun ρ args hp K => match args, hp with
  | [.ptr 0 0], [(0, .box [.sl .byte b, .int .i64 a, .int .i64 e])] => bif rdOk b a then K (.int .i64 ((List.length b : Int) - a)) [(0, .box [.sl .byte b, .int .i64 a, .int .i64 e])] 1 else none
  | _, _ => none
theorem ok68 : SpecOk Go.Proofs.Tryz.prog 68 S68 := use mixed env0 Go.Proofs.Tryz.func68 (by kernel_rfl) (by
  intro ρ fin args hp K h
  unfold S68 at h
  split at h
  · rename_i b a e
    obtain ⟨hg, h⟩ := bif_t h
    obtain ⟨k, rfl, hk, hl⟩ := rdOk_is hg
    refine ⟨_, _, _, (e68 9 K b k e).trans ?_⟩
    rw [wrap_i64 (by omega) (by omega)]
    exact h
  · cases h)

noncomputable def S65 : Summ := fun ρ args hp K => match args, hp with
  | [.ptr 0 0, .int .i64 n], [(0, .box [.sl .byte b, .int .i64 a, .int .i64 e])] => K (.tup []) [(0, .box [.sl .byte b, .int .i64 a, .int .i64 (if e = 0 then n else e)])] 1
  | _, _ => none
theorem ok65 : SpecOk Go.Proofs.Tryz.prog 65 S65 := use mixed env0 Go.Proofs.Tryz.func65 (by kernel_rfl) (by
  intro ρ fin args hp K h
  unfold S65 at h
  split at h
  · rename_i n b a e
    refine ⟨_, _, _, (e65 9 K n b a e).trans ?_⟩
    by_cases he : e = 0
    · subst he
      exact h
    · have h1 : (e == 0) = false := by simp [he]
      rw [if_neg he] at h
      rw [h1, cond_false]
      exact h
  · cases h)

def endE (b : List UInt8) (a e : Int) : Int := if e = 0 then (if a < b.length then 4 else 0) else e
theorem end_eq {ρ : Type} (X : Int → Option ρ) (b : List UInt8) (a e : Int) : (bif e == (0 : Int) then bif decide (a < (b.length : Int)) then X 4 else X e else X e) = X (endE b a e) := by
  unfold endE
  by_cases he : e = 0
  · subst he
    by_cases h1 : a < (b.length : Int)
    · have h2 : decide (a < (b.length : Int)) = true := by simp [h1]
      rw [if_pos rfl, if_pos h1, h2]; rfl
    · have h2 : decide (a < (b.length : Int)) = false := by simpa using h1
      rw [if_pos rfl, if_neg h1, h2]; rfl
  · have h1 : (e == 0) = false := by simp [he]
    rw [if_neg he, h1, cond_false]
noncomputable def S31 : Summ := fun ρ args hp K => match args, hp with
  | [.ptr 0 0], [(0, .box [.sl .byte b, .int .i64 a, .int .i64 e])] => K (.int .i64 (endE b a e)) [(0, .box [.sl .byte b, .int .i64 a, .int .i64 e])] 1
  | _, _ => none
theorem ok31 : SpecOk Go.Proofs.Tryz.prog 31 S31 := use mixed env0 Go.Proofs.Tryz.func31 (by kernel_rfl) (by
  intro ρ fin args hp K h
  unfold S31 at h
  split at h
  · rename_i b a e
    exact ⟨_, _, _, (e31 9 K b a e).trans ((end_eq (fun r => K (.int .i64 r) [(0, .box [.sl .byte b, .int .i64 a, .int .i64 e])] 1) b a e).trans h)⟩
  · cases h)
noncomputable def S17 : Summ := fun ρ args hp K => match args, hp with
  | [.agg [.sl .byte b, .int .i64 a, .int .i64 e]], [] => K (.int .i64 (endE b a e)) [] 0
  | _, _ => none
theorem ok17 : SpecOk Go.Proofs.Tryz.prog 17 S17 := use mixed env0 Go.Proofs.Tryz.func17 (by kernel_rfl) (by
  intro ρ fin args hp K h
  unfold S17 at h
  split at h
  · rename_i b a e
    exact ⟨_, _, _, (e17 9 K b a e).trans ((end_eq (fun r => K (.int .i64 r) [] 0) b a e).trans h)⟩
  · cases h)

theorem l15 {ρ : Type} (fu : Nat) (K : AV → List (Nat × AO) → Nat → Option ρ) (n a : Nat) (x3 x4 e : Int) (b : List UInt8) (hn : n ≤ 8) (ha : a + n ≤ b.length) (hb : b.length ≤ 4294967296) : ∀ (f k v : Nat), n + 1 ≤ k + f → k ≤ n → v < 256 ^ k →
    l15_8 fu K f (v : Int) (k : Int) (n : Int) x3 x4 b (a : Int) e = K (.tup [.int .u64 ((beF v (((b.drop a).take n).drop k) : Nat) : Int), .agg [.sl .byte b, .int .i64 ((a + n : Nat) : Int), .int .i64 e]]) [] 0 ∨ f = 0
  | 0, _, _, _, _, _ => .inr rfl
  | f + 1, k, v, hf, hk, hv => by
    left
    rw [s15_8]
    by_cases h : k < n
    · have h1 : decide ((k : Int) < (n : Int)) = true := by simp; omega
      have hp := pow256 (show k < 8 by omega)
      have hi : a + k < b.length := by omega
      have hc := UInt8.toNat_lt b[a + k]
      have e0 : IntKind.wrap .i64 ((a : Int) + (k : Int)) = ((a + k : Nat) : Int) := by rw [wrap_i64 (by omega) (by omega)]; omega
      have e1 : IntKind.wrap .u64 ((256 : Int) * (v : Int)) = ((256 * v : Nat) : Int) := by
        rw [wrap_u64 (by omega) (by omega)]; omega
      have e2 : IntKind.wrap .u64 ((b[a + k].toNat : Nat) : Int) = ((b[a + k].toNat : Nat) : Int) := wrap_u64 (by omega) (by omega)
      have e3 : IntKind.wrap .u64 (((256 * v : Nat) : Int) + ((b[a + k].toNat : Nat) : Int)) = ((256 * v + b[a + k].toNat : Nat) : Int) := by
        have := step_lt b[a + k] hv
        have : 256 ^ (k + 1) = 256 ^ k * 256 := Nat.pow_succ ..
        rw [wrap_u64 (by omega) (by omega)]; omega
      rw [h1, cond_true, e0, inb_nat hi, cond_true, Int.toNat_natCast, getD_of hi, e1, e2, e3, wrap_i64 (n := (k : Int) + 1) (by omega) (by omega)]
      rcases l15 fu K n a x3 x4 e b hn ha hb f (k + 1) _ (by omega) (by omega) (step_lt b[a + k] hv) with h3 | h3
      · rw [show ((k : Int) + 1) = ((k + 1 : Nat) : Int) by omega, h3]
        have hlen : ((b.drop a).take n).length = n := by rw [List.length_take, List.length_drop]; omega
        have : ((b.drop a).take n).drop k = b[a + k] :: ((b.drop a).take n).drop (k + 1) := by
          rw [List.drop_eq_getElem_cons (by omega)]
          congr 1
          rw [List.getElem_take, List.getElem_drop]
        rw [this]
        rfl
      · omega
    · have h1 : decide ((k : Int) < (n : Int)) = false := by simp; omega
      have hlen : ((b.drop a).take n).length = n := by rw [List.length_take, List.length_drop]; omega
      rw [h1, cond_false, List.drop_eq_nil_of_le (by omega), wrap_i64 (by omega) (by omega)]
      rfl

noncomputable def v15 {ρ : Type} (K : AV → List (Nat × AO) → Nat → Option ρ) (b : List UInt8) (a e n : Int) : Option ρ :=
  bif rdOk b a && rg n 9 then K (.tup [.int .u64 (takeV b a e n), .agg [.sl .byte b, .int .i64 (takeA b a e n), .int .i64 (takeE b a e n)]]) [] 0 else none
noncomputable def S15 : Summ := fun ρ args hp K => match args, hp with
  | [.agg [.sl .byte b, .int .i64 a, .int .i64 e], .int .i64 n], [] => v15 K b a e n
  | _, _ => none
theorem a15 {ρ : Type} {fin : ρ} (K : AV → List (Nat × AO) → Nat → Option ρ) (b : List UInt8) (a e n : Int) (h : v15 K b a e n = some fin) : aFun E0 ann15 pl15 10 Go.Proofs.Tryz.f15 [.agg [.sl .byte b, .int .i64 a, .int .i64 e], .int .i64 n] [] 0 K = some fin := by
  obtain ⟨hg, h⟩ := bif_t h
  rw [Bool.and_eq_true] at hg
  obtain ⟨k, rfl, hk, hl⟩ := rdOk_is hg.1
  obtain ⟨n, rfl, hn⟩ := rg_is hg.2
  rw [e15, ← h]
  unfold takeV takeA takeE
  by_cases he : e = 0
  · subst he
    have h1 : ((0 : Int) != 0) = false := rfl
    rw [h1, cond_false, wrap_i64 (n := ((b.length : Int) - (k : Int))) (by omega) (by omega)]
    by_cases hs : k + n ≤ b.length
    · have h2 : decide ((b.length : Int) - (k : Int) < (n : Int)) = false := by simp; omega
      have h3 : (0 : Int) = 0 ∧ (k : Int) + (n : Int) ≤ b.length := ⟨rfl, by omega⟩
      have h4 : (k : Int) + (n : Int) ≤ b.length := h3.2
      rw [h2, cond_false, if_pos h3, if_pos h3, if_pos rfl, if_pos h4]
      rcases l15 10 K n k 0 0 0 b (by omega) hs hl 10 0 0 (by omega) (by omega) (by simp) with h9 | h9
      · refine Eq.trans h9 ?_
        rw [List.drop_zero]
        rfl
      · omega
    · have h2 : decide ((b.length : Int) - (k : Int) < (n : Int)) = true := by simp; omega
      have h3 : ¬ ((0 : Int) = 0 ∧ (k : Int) + (n : Int) ≤ b.length) := by omega
      have h4 : ¬ ((k : Int) + (n : Int) ≤ b.length) := by omega
      rw [h2, cond_true, if_neg h3, if_neg h3, if_pos rfl, if_neg h4]
  · have h1 : (e != 0) = true := by simp [he]
    have h3 : ¬ (e = 0 ∧ (k : Int) + (n : Int) ≤ b.length) := fun h => he h.1
    rw [h1, cond_true, if_neg h3, if_neg h3, if_neg he]
theorem ok15 : SpecOk Go.Proofs.Tryz.prog 15 S15 := use mixed env0 Go.Proofs.Tryz.func15 (by kernel_rfl) (by
  intro ρ fin args hp K h
  unfold S15 at h
  split at h
  · exact ⟨_, _, _, a15 K _ _ _ _ h⟩
  · cases h)
end Go.Ai.Dn
