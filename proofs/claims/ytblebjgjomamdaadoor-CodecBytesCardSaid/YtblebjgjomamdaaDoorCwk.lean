/- The examples of layer 15's laws (works) are true, wherever the two tables lie. Conditions: none. -/
import Derived.Test.YtblebjgjomamdaaDoorGl
namespace Go.Proofs.YtblebjgjomamdaaDoor
open Go.RowKit
theorem gl_yes_args {A : Nat → Nat × Nat} {w : World} (h : Gl A w) {fuel : Nat} {f : FuncId} {args : List Value} (hc : Ev.yes (Ev.callWith Tryd.prog (Ev.run Tryd.prog fuel) f (args.map .lit) glStart) = true) :
    Calls Tryd.prog f ⟨args⟩ w fun e w' => e = .returned (.bool true) ∧ Below w.heap.size w w' := by
  unfold Ev.yes at hc
  split at hc
  · rename_i hh hcall
    exact Ev.call_known mixed (args := args) hcall w (fun g hg => by rw [globals2] at hg; simp [glMap, hg]) (gl_hr h)
  · cases hc
theorem same_run : Ev.yes (Ev.callWith Tryd.prog (Ev.run Tryd.prog 1000) 14 ([Value.agg #[.string ⟨#[]⟩, .slice none 0 0, .slice none 0 0, .slice none 0 0], Value.agg #[.string ⟨#[]⟩, .slice none 0 0, .slice none 0 0, .slice none 0 0]].map .lit) glStart) = true := by kernel_rfl
theorem works_run : Ev.yes (Ev.callWith Tryd.prog (Ev.run Tryd.prog 1000) 5 [] glStart) = true := by kernel_rfl
theorem works_true {A : Nat → Nat × Nat} (w : World) (h : Gl A w) : Calls Tryd.prog 5 #[] w fun e w' => e = .returned (.bool true) ∧ Below w.heap.size w w' := gl_yes h works_run
theorem same_zero {A : Nat → Nat × Nat} (w : World) (h : Gl A w) : Calls Tryd.prog 14 #[.agg #[.string ⟨#[]⟩, .slice none 0 0, .slice none 0 0, .slice none 0 0], .agg #[.string ⟨#[]⟩, .slice none 0 0, .slice none 0 0, .slice none 0 0]] w fun e w' => e = .returned (.bool true) ∧ Below w.heap.size w w' := gl_yes_args h same_run
end Go.Proofs.YtblebjgjomamdaaDoor
