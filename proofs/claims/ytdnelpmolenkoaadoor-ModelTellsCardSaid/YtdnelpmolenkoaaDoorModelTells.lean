/- callboardlaw14.ModelTells returns true for every input, and its arguments read as they did. Conditions: the package-level tables reserved and events are as the program's text lays them, to which the card ties them. -/
import Derived.Test.YtdnelpmolenkoaaDoorRows
import Derived.Test.YtdnelpmolenkoaaDoorTie
import Derived.Test.YtdnelpmolenkoaaDoorCards
import Derived.Test.YtdnelpmolenkoaaDoorTells
import Derived.Test.YtdnelpmolenkoaaDoorMOpen
import Derived.Test.YtdnelpmolenkoaaDoorLaw
import Derived.SevenTiedAt
import Derived.ChangeMaps5
namespace Go.Proofs.YtdnelpmolenkoaaDoor.modelTells
open Go.ChangeShapes Go.WideShapes Go.ChangeAt Go.RowKit
open Go.ChangeMaps (open_string)

theorem own : ownKnob Tryd.prog.godebug = none := by kernel_rfl
theorem laidOut : laidOutB Tryd.prog = true := by kernel_rfl
theorem door_met (os : Os) (args : Array Value) : laidMetH Tryd.prog laidAll ((World.doorLaid Tryd.prog 400 os).forCall (fun _ _ => 0) ⟨#[], args, []⟩).memory :=
  laidMetH_of_parts3 (fuel := 8) (laidMet_of_run' 8 (by kernel_rfl) (by kernel_rfl)) (by kernel_rfl) (by kernel_rfl)

set_option maxRecDepth 100000 in
theorem lifted (os : Os) (started : os.Started) (H : Type) (enc : TypeId × Value → H) :
    ReturnsInHanded {} Tryd.checked os 8 .any (fun w args => (Rows.modelTellsSpec.pre enc Tryd.prog Tryd.f8 [] false w args ∧ laidMetH Tryd.prog laidAll w) ∧ sizedMet enc Tryd.prog Tryd.f8 (OpenSpec.ofChange Rows.modelTellsSpec) false w args)
      (Rows.modelTellsSpec.post enc Tryd.prog Tryd.f8 false true false false) := by
  refine returnsInHanded_of_change_and (C := Tryd.checked) (X := fun w _ => laidMetH Tryd.prog laidAll w) (fun _ _ _ hh h => h.of_heap hh) own started (by kernel_rfl) Tryd.func8
    (ChangeSpec.witness_shaped (enc := enc) (C := Tryd.checked) (os := os) (X := fun w _ => laidMetH Tryd.prog laidAll w) false (World.doorLaid Tryd.prog 400 os) #[.agg #[.string ⟨#[]⟩, .slice none 0 0, .slice none 0 0, .slice none 0 0], .agg #[.string ⟨#[]⟩, .slice none 0 0, .slice none 0 0, .slice none 0 0], .agg #[.string ⟨#[]⟩, .int .u8 0, .int .i64 0, .int .i64 0, .int .u8 0, .string ⟨#[]⟩, .string ⟨#[]⟩, .string ⟨#[]⟩, .bool false, .slice none 0 0, .slice none 0 0], .agg #[.int .i64 0, .int .i64 0, .string ⟨#[]⟩, .bool false], .string ⟨#[]⟩] 8 rfl (World.shaped_of_RefB (by kernel_rfl) (by kernel_rfl)) (by kernel_rfl) (by kernel_rfl) (by kernel_rfl) (door_met os _)) ?_
  intro W base args ds gs before hval0 hW _ _ hL _
  have hval : ∀ (j : Nat) t v, Tryd.f8.params[j]? = some t → args[j]? = some v → Value.okWide Tryd.prog W .any base t v := hval0
  have hW' := hW
  obtain ⟨p, q, hA0, hV, rfl, hfz, hnd⟩ := hW
  have hA : DataW.TrodAll enc Tryd.prog W 0 (fun _ => true) true Tryd.f8.params.toList args.toList ds p := hA0
  rw [Tryd.params8] at hA hval
  obtain ⟨v0, vs0, d0, ds0, p0, q0, e0, rfl, rfl, h0, hA1⟩ := trodAll_cons hA
  obtain ⟨v1, vs1, d1, ds1, p1, q1, rfl, rfl, rfl, h1, hA2⟩ := trodAll_cons hA1
  obtain ⟨v2, vs2, d2, ds2, p2, q2, rfl, rfl, rfl, h2, hA3⟩ := trodAll_cons hA2
  obtain ⟨v3, vs3, d3, ds3, p3, q3, rfl, rfl, rfl, h3, hA4⟩ := trodAll_cons hA3
  obtain ⟨v4, vs4, d4, ds4, p4, q4, rfl, rfl, rfl, h4, hA5⟩ := trodAll_cons hA4
  obtain ⟨e5, rfl, rfl⟩ := trodAll_none (args := ⟨vs4⟩) hA5
  obtain rfl : vs4 = [] := by simpa using e5
  obtain rfl : args = #[v0, v1, v2, v3, v4] := by cases args; simp at e0; simp [e0]
  obtain ⟨c0, rfl, s0⟩ := okWide_struct Tryd.underlying30 (hval 0 30 v0 rfl rfl)
  obtain ⟨f0, hf0⟩ := h0
  obtain ⟨x0, fit0, at0, hc0⟩ := proc_of (cs := c0.toList) (by rw [Array.length_toList, s0]; kernel_rfl) hf0
  obtain rfl : c0 = x0.cs := by cases c0; simp at hc0; simp [hc0]
  obtain ⟨c1, rfl, s1⟩ := okWide_struct Tryd.underlying30 (hval 1 30 v1 rfl rfl)
  obtain ⟨f1, hf1⟩ := h1
  obtain ⟨x1, fit1, at1, hc1⟩ := proc_of (cs := c1.toList) (by rw [Array.length_toList, s1]; kernel_rfl) hf1
  obtain rfl : c1 = x1.cs := by cases c1; simp at hc1; simp [hc1]
  obtain ⟨c2, rfl, s2⟩ := okWide_struct Tryd.underlying25 (hval 2 25 v2 rfl rfl)
  obtain ⟨f2, hf2⟩ := h2
  obtain ⟨x2, fit2, at2, hc2⟩ := node_of (cs := c2.toList) (by rw [Array.length_toList, s2]; kernel_rfl) hf2
  obtain rfl : c2 = x2.cs := by cases c2; simp at hc2; simp [hc2]
  obtain ⟨c3, rfl, s3⟩ := okWide_struct Tryd.underlying48 (hval 3 48 v3 rfl rfl)
  obtain ⟨f3, hf3⟩ := h3
  obtain ⟨x3, fit3, hc3⟩ := flow_of (cs := c3.toList) (by rw [Array.length_toList, s3]; kernel_rfl) hf3
  obtain rfl : c3 = flowC x3 := by cases c3; simp at hc3; simp [hc3]
  obtain ⟨x4, rfl, rfl, rfl, fit4⟩ := open_string Tryd.underlying9 (hval 4 9 v4 rfl rfl) h4
  unfold maxLen at fit4
  obtain ⟨A, hG⟩ := of_laid hL
  clear hA0 hval0
  refine (tells_run x0 x1 x2 x3 x4 W hG at0 at1 at2 fit0 fit1 fit2 fit3 fit4).mono fun e W' ⟨he, hg⟩ => ?_
  subst he
  exact ⟨_, rfl, Law.post_true rfl (by kernel_rfl) Tryd.underlying4 laidOut (by kernel_rfl) hW' rfl rfl rfl hg⟩

theorem over : Rows.ModelTellsSaid :=
  OpenClaim.holds_of_wide 8 Tryd.f8 rfl rfl rfl rfl rfl rfl rfl ⟨rfl, rfl, rfl, rfl, rfl⟩ rfl rfl rfl rfl rfl (by kernel_rfl) Tryd.func8 (by kernel_rfl)
    (of_decide_eq_true (by kernel_rfl)) (by unfold Func.isWrapper; first | (rw [if_pos (by decide +kernel)]; kernel_rfl) | (rw [if_neg (by decide +kernel)]; exact ⟨rfl, rfl⟩))
    (fun os started H enc _ => lifted os started H enc)

/-- THE STATEMENT -/
theorem proved : Rows.ModelTellsCardSaid :=
  Claim7.holds_tied_plain_at .later [] [.widerDeep, .widerDeep] true Rows.modelTellsCard.stood.harness true
    over (fun _ h => by cases h) (by kernel_rfl) (fun _ h => by cases h) modelTells_row_tie rfl ⟨rfl, rfl⟩ (by kernel_rfl) rfl
    (fun f fn hf hfn => by
      obtain rfl : f = 8 := Option.some.inj ((show Tryd.prog.funcNamed "callboard/callboardlaw14.ModelTells" = some 8 by kernel_rfl).symm.trans hf) |>.symm
      obtain rfl : fn = Tryd.f8 := (Option.some.inj (Tryd.func8.symm.trans hfn)).symm
      exact ⟨by kernel_rfl, fun j t ht => by
        rw [Tryd.params8] at ht
        have hj' : j < 5 := (Array.getElem?_eq_some_iff.1 ht).1
        rcases (by omega : j = 0 ∨ j = 1 ∨ j = 2 ∨ j = 3 ∨ j = 4) with rfl | rfl | rfl | rfl | rfl
        · simp at ht
          subst ht
          exact (by kernel_rfl : Tryd.prog.wantsStandIn 30 = false)
        · simp at ht
          subst ht
          exact (by kernel_rfl : Tryd.prog.wantsStandIn 30 = false)
        · simp at ht
          subst ht
          exact (by kernel_rfl : Tryd.prog.wantsStandIn 25 = false)
        · simp at ht
          subst ht
          exact (by kernel_rfl : Tryd.prog.wantsStandIn 48 = false)
        · simp at ht
          subst ht
          exact (by kernel_rfl : Tryd.prog.wantsStandIn 9 = false)⟩)
    (by kernel_rfl)
end Go.Proofs.YtdnelpmolenkoaaDoor.modelTells
