/- The first layer's summaries together. -/
import Derived.Test.YtjjobkpflphpiaaGreatAiDnD
set_option maxRecDepth 100000
namespace Go.Ai.Dn
open Go.Proofs
noncomputable def L1 : List (Nat × Summ) := [(145, S145), (193, S193), (54, S54), (53, S53), (96, S96), (62, S96), (97, S97), (32, adapt [.imm .byte, .imm .byte] .keep S32), (109, S109), (68, S68), (65, S65), (31, S31), (17, S17), (15, S15), (63, adapt [.imm .byte] .keep (cl0 .byte)), (98, S98)]
theorem L1_ok : ∀ p ∈ L1, SpecOk Tryz.prog p.1 p.2 :=
  oks_cons ok145 <| oks_cons ok193 <| oks_cons ok54 <| oks_cons ok53 <| oks_cons ok96 <| oks_cons ok62 <| oks_cons ok97 <| oks_cons (adapt_ok ok32 _ _) <| oks_cons ok109 <| oks_cons ok68 <| oks_cons ok65 <| oks_cons ok31 <| oks_cons ok17 <| oks_cons ok15 <| oks_cons ok63 <| oks_cons ok98 oks_nil
noncomputable def E1 : Env := ⟨tabOf 370 ttab, lookS L1⟩
theorem env1 : EnvOk Tryz.prog E1 := ⟨tabOk_ok tabTrue, lookS_ok L1_ok⟩
end Go.Ai.Dn
