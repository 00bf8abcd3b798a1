import Derived.Test.YtjjobkpflphpiaaGreatAiDnT
import Derived.Tactics
set_option maxRecDepth 100000
namespace Go.Ai.Dn
theorem tabTrue : tabOk Go.Proofs.Tryz.prog 370 ttab = true := by kernel_rfl
end Go.Ai.Dn
