/- The ghost machine on this seat's program: what is looked at once. -/
import Derived.Test.YtnfbfcheipjonaaGreatDoorGmEnv0
namespace Go.Gm
set_option maxRecDepth 100000
theorem E0_prog : progOK E0.A E0.P = true := by kernel_rfl
theorem E0_mixed : E0.P.follows .mixedOrders = true := by kernel_rfl
theorem E0_sound (n : Nat) (g : FuncId) : FunOK E0 g (run E0 n g) := ghost_sound E0_prog E0_mixed (fun _ _ h => by cases h) n g
end Go.Gm
