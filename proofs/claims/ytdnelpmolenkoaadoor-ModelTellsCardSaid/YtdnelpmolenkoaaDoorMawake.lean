/- The examples of layer 14's laws (awake) are true, wherever the two tables lie. Conditions: none. -/
import Derived.Test.YtdnelpmolenkoaaDoorGl
namespace Go.Proofs.YtdnelpmolenkoaaDoor
open Go.RowKit
theorem mawake_run : Ev.yes (Ev.callWith Tryd.prog (Ev.run Tryd.prog 1000) 10 [] glStart) = true := by kernel_rfl
theorem mawake_true {A : Nat → Nat × Nat} (w : World) (h : Gl A w) : Calls Tryd.prog 10 #[] w fun e w' => e = .returned (.bool true) ∧ Below w.heap.size w w' := gl_yes h mawake_run
end Go.Proofs.YtdnelpmolenkoaaDoor
