/- The examples of layer 2's laws (awake) are true, from whatever world. Conditions: none. -/
import Derived.Test.YtlflkmigfggdjaaEvRow
import Derived.Test.YtlflkmigfggdjaaProg
namespace Go.Proofs.Ytlflkmigfggdjaa
open Go.RowKit

theorem mixed : Try.prog.follows .mixedOrders = true := by kernel_rfl
theorem awake_run : Ev.yes (Ev.call Try.prog 1000 10 []) = true := by kernel_rfl
theorem awake_true (w : World) : Calls Try.prog 10 #[] w fun e w' => e = .returned (.bool true) ∧ Below w.heap.size w w' := Ev.yes_returns mixed awake_run w
end Go.Proofs.Ytlflkmigfggdjaa
