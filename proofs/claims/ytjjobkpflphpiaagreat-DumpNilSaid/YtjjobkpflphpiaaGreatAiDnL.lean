/- The eighth layer: nothing is restored in a nil forest. -/
import Derived.Test.YtjjobkpflphpiaaGreatAiDnY
set_option maxRecDepth 100000
set_option linter.unusedVariables false
set_option linter.unusedSimpArgs false
namespace Go.Ai.Dn
noncomputable def ann6 : Nat → Option (List (Nat × Mode)) := lookN [(7, [(0, .keep), (24, .keep), (6, .keep), (25, .keep), (26, .keep)])]
noncomputable def pl6 : Nat → Option (List (Nat × Bool) × List Nat) := lookN []
theorem e6 {ρ : Type} (fu : Nat) (K : AV → List (Nat × AO) → Nat → Option ρ) (b : List UInt8) :
    aFun E7 ann6 pl6 fu Go.Proofs.Tryz.f6 [AV.nilp, AV.sl Ty.byte b] [] 0 K =
    bif gd (List.length b ≤ (65536 : Nat)) then
  bif gd (Prod.snd (refGet b) = (0 : Int)) then
    K (AV.tup [AV.int IntKind.i64 (0 : Int), AV.int IntKind.i64 (1 : Int)]) [] (0 : Nat)
  else
    bif Prod.snd (refGet b) != (0 : Int) then
      K (AV.tup [AV.int IntKind.i64 (0 : Int), AV.int IntKind.i64 (Prod.snd (refGet b))]) [] (0 : Nat)
    else K (AV.tup [AV.int IntKind.i64 (0 : Int), AV.int IntKind.i64 (1 : Int)]) [] (0 : Nat)
else none := by kernel_rfl

def nilE (b : List UInt8) : Int := if (refGet b).2 = 0 then 1 else (refGet b).2
noncomputable def v6 {ρ : Type} (K : AV → List (Nat × AO) → Nat → Option ρ) (b : List UInt8) : Option ρ := bif gd (b.length ≤ 65536) then K (.tup [.int .i64 0, .int .i64 (nilE b)]) [] 0 else none
noncomputable def S6 : Summ := fun ρ args hp K => match args, hp with
  | [.nilp, .sl .byte b], [] => v6 K b
  | _, _ => none
theorem a6 {ρ : Type} {fin : ρ} (K : AV → List (Nat × AO) → Nat → Option ρ) (b : List UInt8) (h : v6 K b = some fin) : aFun E7 ann6 pl6 9 Go.Proofs.Tryz.f6 [.nilp, .sl .byte b] [] 0 K = some fin := by
  obtain ⟨hg, h⟩ := bif_t h
  rw [e6, hg, cond_true, ← h]
  unfold nilE
  by_cases h0 : (refGet b).2 = 0
  · rw [gd_t h0, cond_true, if_pos h0]
  · have : ((refGet b).2 != 0) = true := by simp [h0]
    rw [gd_f h0, cond_false, this, cond_true, if_neg h0]
theorem ok6 : SpecOk Go.Proofs.Tryz.prog 6 S6 := use mixed env7 Go.Proofs.Tryz.func6 (by kernel_rfl) (by
  intro ρ fin args hp K h
  unfold S6 at h
  split at h
  · exact ⟨_, _, _, a6 K _ h⟩
  · cases h)
noncomputable def L8 : List (Nat × Summ) := [(6, S6)] ++ L7
theorem L8_ok : ∀ p ∈ L8, SpecOk Go.Proofs.Tryz.prog p.1 p.2 := oks_cons ok6 L7_ok
noncomputable def E8 : Env := ⟨tabOf 370 ttab, lookS L8⟩
theorem env8 : EnvOk Go.Proofs.Tryz.prog E8 := ⟨tabOk_ok tabTrue, lookS_ok L8_ok⟩
end Go.Ai.Dn
