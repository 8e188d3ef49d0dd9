/- lives of layer 37, run in the kernel. -/
import Derived.Test.YtnfbfcheipjonaaGreatDoorGmEnv
namespace Go.Gm
set_option maxRecDepth 100000
theorem lives_run : (run E0 130 10 [] []).map Prod.fst = some (.ret (.bool true)) := by kernel_rfl
end Go.Gm
