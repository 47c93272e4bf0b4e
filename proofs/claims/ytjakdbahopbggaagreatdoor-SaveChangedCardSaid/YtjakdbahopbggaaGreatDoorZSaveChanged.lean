/- callboardlaw30.SaveChanged returns true for every input, and its arguments read as they did. Conditions: the package-level tables reserved and events are as the program's text lays them, to which the card ties them. -/
import Derived.Test.YtjakdbahopbggaaGreatDoorRows
import Derived.Test.YtjakdbahopbggaaGreatDoorTie
import Derived.Test.YtjakdbahopbggaaGreatDoorCards
import Derived.Test.YtjakdbahopbggaaGreatDoorZK47
import Derived.Test.YtjakdbahopbggaaGreatDoorZSvO
import Derived.SevenTiedAt
namespace Go.Proofs.YtjakdbahopbggaaGreatDoor.saveChanged
open Go.ChangeShapes Go.WideShapes Go.ChangeAt Go.RowKit

theorem own : ownKnob Tryz.prog.godebug = none := by kernel_rfl
theorem laidOut : laidOutB Tryz.prog = true := by kernel_rfl
theorem door_met (os : Os) (args : Array Value) : laidMetH Tryz.prog laidAll ((World.doorLaid Tryz.prog 400 os).forCall (fun _ _ => 0) ⟨#[], args, []⟩).memory :=
  laidMetH_of_parts3 (fuel := 8) (laidMet_of_run' 8 (by kernel_rfl) (by kernel_rfl)) (by kernel_rfl) (by kernel_rfl)

set_option maxRecDepth 100000 in
theorem lifted (os : Os) (started : os.Started) (H : Type) (enc : TypeId × Value → H) :
    ReturnsInHanded {} Tryz.checked os 3 .any (fun w args => (Rows.saveChangedSpec.pre enc Tryz.prog Tryz.f3 [] false w args ∧ laidMetH Tryz.prog laidAll w) ∧ sizedMet enc Tryz.prog Tryz.f3 (OpenSpec.ofChange Rows.saveChangedSpec) false w args)
      (Rows.saveChangedSpec.post enc Tryz.prog Tryz.f3 false true false false) := by
  refine returnsInHanded_of_change_and (C := Tryz.checked) (X := fun w _ => laidMetH Tryz.prog laidAll w) (fun _ _ _ hh h => h.of_heap hh) own started (by kernel_rfl) Tryz.func3
    (ChangeSpec.witness_shaped (enc := enc) (C := Tryz.checked) (os := os) (X := fun w _ => laidMetH Tryz.prog laidAll w) false (World.doorLaid Tryz.prog 400 os) #[.agg #[.int .i64 0, .int .i64 0, .slice none 0 0, .slice none 0 0, .slice none 0 0, .slice none 0 0], .agg #[.int .i64 0, .int .i64 0, .slice none 0 0, .slice none 0 0, .slice none 0 0, .slice none 0 0]] 8 rfl (World.shaped_of_RefB (by kernel_rfl) (by kernel_rfl)) (by kernel_rfl) (by kernel_rfl) (by kernel_rfl) (door_met os _)) ?_
  intro W base args ds gs before hval0 hW _ hZ hL _
  have hval : ∀ (j : Nat) t v, Tryz.f3.params[j]? = some t → args[j]? = some v → Value.okWide Tryz.prog W .any base t v := hval0
  have hW' := hW
  obtain ⟨p, q, hA0, hV, rfl, hfz, hnd⟩ := hW
  have hA : DataW.TrodAll enc Tryz.prog W 0 (fun _ => true) true Tryz.f3.params.toList args.toList ds p := hA0
  rw [Tryz.params3] at hA hval
  obtain ⟨v0, vs0, d0, ds0, p0, q0, e0, rfl, rfl, h0, hA1⟩ := trodAll_cons hA
  obtain ⟨v1, vs1, d1, ds1, p1, q1, rfl, rfl, rfl, h1, hA2⟩ := trodAll_cons hA1
  obtain ⟨e2, rfl, rfl⟩ := trodAll_none (args := ⟨vs1⟩) hA2
  obtain rfl : vs1 = [] := by simpa using e2
  obtain rfl : args = #[v0, v1] := by cases args; simp at e0; simp [e0]
  obtain ⟨c0, rfl, s0⟩ := okWide_struct Tryz.underlying27 (hval 0 27 v0 rfl rfl)
  obtain ⟨f0, hf0⟩ := h0
  obtain ⟨x0, fit0, gf0, at0, hc0⟩ := state_of (cs := c0.toList) (by rw [Array.length_toList, s0]; kernel_rfl) hf0 (fun n hn => by simpa using List.all_eq_true.1 hZ _ (DataW.weights_mem_each (j := 0) (t := 27) rfl rfl n hn))
  obtain rfl : c0 = x0.cs := by cases c0; simp at hc0; simp [hc0]
  obtain ⟨c1, rfl, s1⟩ := okWide_struct Tryz.underlying27 (hval 1 27 v1 rfl rfl)
  obtain ⟨f1, hf1⟩ := h1
  obtain ⟨x1, fit1, gf1, at1, hc1⟩ := state_of (cs := c1.toList) (by rw [Array.length_toList, s1]; kernel_rfl) hf1 (fun n hn => by simpa using List.all_eq_true.1 hZ _ (DataW.weights_mem_each (j := 1) (t := 27) rfl rfl n hn))
  obtain rfl : c1 = x1.cs := by cases c1; simp at hc1; simp [hc1]
  obtain ⟨A, hG⟩ := of_laid hL
  clear hA0 hval0
  refine (saveChanged_run x0 x1 W hG at0 at1 fit0 fit1 gf0 gf1).mono fun e W' ⟨he, hg⟩ => ?_
  subst he
  exact ⟨_, rfl, Law.post_true rfl (by kernel_rfl) Tryz.underlying4 laidOut (by kernel_rfl) hW' rfl rfl rfl hg⟩

theorem over : Rows.SaveChangedSaid :=
  OpenClaim.holds_of_wide 3 Tryz.f3 rfl rfl rfl rfl rfl rfl rfl ⟨rfl, rfl, rfl, rfl, rfl⟩ rfl rfl rfl rfl rfl (by kernel_rfl) Tryz.func3 (by kernel_rfl)
    (of_decide_eq_true (by kernel_rfl)) (by unfold Func.isWrapper; first | (rw [if_pos (by decide +kernel)]; kernel_rfl) | (rw [if_neg (by decide +kernel)]; exact ⟨rfl, rfl⟩))
    (fun os started H enc _ => lifted os started H enc)

set_option maxRecDepth 100000 in
/-- THE STATEMENT -/
theorem proved : Rows.SaveChangedCardSaid :=
  Claim7.holds_tied_plain_at .later [] [.widerDeep, .widerDeep] true Rows.saveChangedCard.stood.harness true
    over (fun _ h => by cases h) (by kernel_rfl) (fun _ h => by cases h) saveChanged_row_tie rfl ⟨rfl, rfl⟩ (by kernel_rfl) rfl
    (fun f fn hf hfn => by
      obtain rfl : f = 3 := Option.some.inj ((show Tryz.prog.funcNamed "callboard/callboardlaw30.SaveChanged" = some 3 by kernel_rfl).symm.trans hf) |>.symm
      obtain rfl : fn = Tryz.f3 := (Option.some.inj (Tryz.func3.symm.trans hfn)).symm
      exact ⟨by kernel_rfl, fun j t ht => by
        rw [Tryz.params3] at ht
        have hj' : j < 2 := (Array.getElem?_eq_some_iff.1 ht).1
        rcases (by omega : j = 0 ∨ j = 1) with rfl | rfl
        · simp at ht
          subst ht
          exact (by kernel_rfl : Tryz.prog.wantsStandIn 27 = false)
        · simp at ht
          subst ht
          exact (by kernel_rfl : Tryz.prog.wantsStandIn 27 = false)⟩)
    (by kernel_rfl)
end Go.Proofs.YtjakdbahopbggaaGreatDoor.saveChanged
