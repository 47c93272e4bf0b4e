/- callboardlaw14.ModelEach returns true for every input, and its arguments read as they did. Conditions: the package-level tables reserved and events are as the program's text lays them, to which the card ties them. -/
import Derived.Test.YtdnelpmolenkoaaDoorRows
import Derived.Test.YtdnelpmolenkoaaDoorTie
import Derived.Test.YtdnelpmolenkoaaDoorCards
import Derived.Test.YtdnelpmolenkoaaDoorMEach2
import Derived.Test.YtdnelpmolenkoaaDoorMOpen
import Derived.Test.YtdnelpmolenkoaaDoorLaw
import Derived.SevenTiedAt
namespace Go.Proofs.YtdnelpmolenkoaaDoor.modelEach
open Go.ChangeShapes Go.WideShapes Go.ChangeAt Go.RowKit

theorem own : ownKnob Tryd.prog.godebug = none := by kernel_rfl
theorem laidOut : laidOutB Tryd.prog = true := by kernel_rfl
theorem door_met (os : Os) (args : Array Value) : laidMetH Tryd.prog laidAll ((World.doorLaid Tryd.prog 400 os).forCall (fun _ _ => 0) ⟨#[], args, []⟩).memory :=
  laidMetH_of_parts3 (fuel := 8) (laidMet_of_run' 8 (by kernel_rfl) (by kernel_rfl)) (by kernel_rfl) (by kernel_rfl)

set_option maxRecDepth 100000 in
theorem lifted (os : Os) (started : os.Started) (H : Type) (enc : TypeId × Value → H) :
    ReturnsInHanded {} Tryd.checked os 6 .any (fun w args => (Rows.modelEachSpec.pre enc Tryd.prog Tryd.f6 [] false w args ∧ laidMetH Tryd.prog laidAll w) ∧ sizedMet enc Tryd.prog Tryd.f6 (OpenSpec.ofChange Rows.modelEachSpec) false w args)
      (Rows.modelEachSpec.post enc Tryd.prog Tryd.f6 false true false false) := by
  refine returnsInHanded_of_change_and (C := Tryd.checked) (X := fun w _ => laidMetH Tryd.prog laidAll w) (fun _ _ _ hh h => h.of_heap hh) own started (by kernel_rfl) Tryd.func6
    (ChangeSpec.witness_shaped (enc := enc) (C := Tryd.checked) (os := os) (X := fun w _ => laidMetH Tryd.prog laidAll w) false (World.doorLaid Tryd.prog 400 os) #[.agg #[.string ⟨#[]⟩, .slice none 0 0, .slice none 0 0, .slice none 0 0]] 8 rfl (World.shaped_of_RefB (by kernel_rfl) (by kernel_rfl)) (by kernel_rfl) (by kernel_rfl) (by kernel_rfl) (door_met os _)) ?_
  intro W base args ds gs before hval0 hW _ _ hL _
  have hval : ∀ (j : Nat) t v, Tryd.f6.params[j]? = some t → args[j]? = some v → Value.okWide Tryd.prog W .any base t v := hval0
  have hW' := hW
  obtain ⟨p, q, hA0, hV, rfl, hfz, hnd⟩ := hW
  have hA : DataW.TrodAll enc Tryd.prog W 0 (fun _ => true) true Tryd.f6.params.toList args.toList ds p := hA0
  rw [Tryd.params6] at hA hval
  obtain ⟨v0, vs0, d0, ds0, p0, q0, e0, rfl, rfl, h0, hA1⟩ := trodAll_cons hA
  obtain ⟨e1, rfl, rfl⟩ := trodAll_none (args := ⟨vs0⟩) hA1
  obtain rfl : vs0 = [] := by simpa using e1
  obtain rfl : args = #[v0] := by cases args; simp at e0; simp [e0]
  obtain ⟨c0, rfl, s0⟩ := okWide_struct Tryd.underlying30 (hval 0 30 v0 rfl rfl)
  obtain ⟨f0, hf0⟩ := h0
  obtain ⟨x0, fit0, at0, hc0⟩ := proc_of (cs := c0.toList) (by rw [Array.length_toList, s0]; kernel_rfl) hf0
  obtain rfl : c0 = x0.cs := by cases c0; simp at hc0; simp [hc0]
  obtain ⟨A, hG⟩ := of_laid hL
  clear hA0 hval0
  refine (each_run x0 W hG at0 fit0).mono fun e W' ⟨he, hg⟩ => ?_
  subst he
  exact ⟨_, rfl, Law.post_true rfl (by kernel_rfl) Tryd.underlying4 laidOut (by kernel_rfl) hW' rfl rfl rfl hg⟩

theorem over : Rows.ModelEachSaid :=
  OpenClaim.holds_of_wide 6 Tryd.f6 rfl rfl rfl rfl rfl rfl rfl ⟨rfl, rfl, rfl, rfl, rfl⟩ rfl rfl rfl rfl rfl (by kernel_rfl) Tryd.func6 (by kernel_rfl)
    (of_decide_eq_true (by kernel_rfl)) (by unfold Func.isWrapper; first | (rw [if_pos (by decide +kernel)]; kernel_rfl) | (rw [if_neg (by decide +kernel)]; exact ⟨rfl, rfl⟩))
    (fun os started H enc _ => lifted os started H enc)

/-- THE STATEMENT -/
theorem proved : Rows.ModelEachCardSaid :=
  Claim7.holds_tied_plain_at .later [] [.widerDeep, .widerDeep] true Rows.modelEachCard.stood.harness true
    over (fun _ h => by cases h) (by kernel_rfl) (fun _ h => by cases h) modelEach_row_tie rfl ⟨rfl, rfl⟩ (by kernel_rfl) rfl
    (fun f fn hf hfn => by
      obtain rfl : f = 6 := Option.some.inj ((show Tryd.prog.funcNamed "callboard/callboardlaw14.ModelEach" = some 6 by kernel_rfl).symm.trans hf) |>.symm
      obtain rfl : fn = Tryd.f6 := (Option.some.inj (Tryd.func6.symm.trans hfn)).symm
      exact ⟨by kernel_rfl, fun j t ht => by
        rw [Tryd.params6] at ht
        have hj' : j < 1 := (Array.getElem?_eq_some_iff.1 ht).1
        obtain rfl : j = 0 := by omega
        · simp at ht
          subst ht
          exact (by kernel_rfl : Tryd.prog.wantsStandIn 30 = false)⟩)
    (by kernel_rfl)
end Go.Proofs.YtdnelpmolenkoaaDoor.modelEach
