/- The package-level tables in the memory of the evaluator with maps. Conditions: none. -/
import Derived.Test.YtjakdbahopbggaaGreatDoorGl
import Derived.Test.YtjakdbahopbggaaGreatDoorOmB
namespace Go.Proofs.YtjakdbahopbggaaGreatDoor
open Go.RowKit Go.ChangeShapes

noncomputable def orc : Om.Orc := fun _ _ => none
theorem orc_ok : Om.OrcOK Tryz.prog orc := fun _ _ _ h => by cases h
noncomputable def goCells : List (Nat × List Om.AV) :=
  (1, resRow.map fun s => .lit (.string s)) ::
  (2, .lit (.slice none 0 0) :: (List.range' 1 15).map fun i => .sl (gN + i) 0 (evRow i).length (.known (evRow i).length)) ::
  (List.range' 1 15).map fun i => (gN + i, (evRow i).map fun (n : Nat) => .lit (.int .u8 n))
def goMap (A : Nat → Nat × Nat) : Om.G := ⟨fun b => if b < gN then some (b, 0) else if b < gN + 16 then some (A (b - gN)) else none, fun _ => none⟩
noncomputable def goStart : Om.H := Om.startAt (gN + 16) goCells
theorem goHr {A : Nat → Nat × Nat} {w : World} (h : Gl A w) : Om.HR (goMap A) goStart (fun B => w.heap[B]?) w w := by
  refine Om.hr_known (fun b hb => ?_) (fun t => rfl) ?_
  · simp only [goMap]
    rw [if_neg (by omega), if_neg (by omega)]
  · intro b cs hm
    simp only [goCells, List.mem_cons, List.mem_map, Prod.mk.injEq] at hm
    rcases hm with ⟨rfl, rfl⟩ | ⟨rfl, rfl⟩ | ⟨i, hi, rfl, rfl⟩
    · obtain ⟨cs, t, h1, h2, h3⟩ := h.res
      refine ⟨1, 0, cs, t, by simp [goMap, gN], h1, by rw [h2]; decide, fun i v hv => ?_⟩
      rw [List.getElem?_map, Option.map_eq_some_iff] at hv
      obtain ⟨s, hs, rfl⟩ := hv
      exact ⟨_, by rw [Nat.zero_add]; exact h3 i s hs, .lit _⟩
    · obtain ⟨cs, t, h1, h2, h3, h4⟩ := h.evs
      refine ⟨2, 0, cs, t, by simp [goMap, gN], h1, by rw [h2]; decide, fun i v hv => ?_⟩
      rw [Nat.zero_add]
      cases i with
      | zero =>
        simp at hv
        subst hv
        exact ⟨_, h3, .lit _⟩
      | succ i =>
        rw [List.getElem?_cons_succ, List.getElem?_map, Option.map_eq_some_iff] at hv
        obtain ⟨j, hj, rfl⟩ := hv
        have hi : i < 15 := by have := (List.getElem?_eq_some_iff.1 hj).1; simpa using this
        rw [List.getElem?_range' hi] at hj
        injection hj with hj
        obtain rfl : j = i + 1 := by omega
        refine ⟨_, h4 (i + 1) (by omega) (by omega), ?_⟩
        refine .sl (B := (A (i + 1)).1) (O := (A (i + 1)).2) ?_ (.known _)
        simp only [goMap]
        rw [if_neg (by omega), if_pos (by omega)]
        congr 2
        omega
    · rw [List.mem_range'] at hi
      obtain ⟨q, hq, rfl⟩ := hi
      obtain ⟨cs, t, h1, h2, h3⟩ := h.row (1 + 1 * q) (by omega) (by omega)
      refine ⟨(A (1 + 1 * q)).1, (A (1 + 1 * q)).2, cs, t, ?_, h1, by rw [List.length_map]; exact h2, fun j v hv => ?_⟩
      · simp only [goMap]
        rw [if_neg (by omega), if_pos (by omega)]
        congr 2
        omega
      · rw [List.getElem?_map, Option.map_eq_some_iff] at hv
        obtain ⟨x, hx, rfl⟩ := hv
        exact ⟨_, h3 j x hx, .lit _⟩
/-- a closed function that says true by the evaluator returns true -/
theorem goYes {A : Nat → Nat × Nat} {w : World} (h : Gl A w) {fuel : Nat} {f : FuncId} (hc : Om.yes (Om.callWith Tryz.prog (Om.run Tryz.prog orc fuel) f [] goStart) = true) :
    Calls Tryz.prog f #[] w fun e w' => e = .returned (.bool true) ∧ Below w.heap.size w w' :=
  Om.yes_known mixed orc_ok hc w (fun g hg => by rw [globals2] at hg; simp [goMap, gN, hg]) (goHr h)

end Go.Proofs.YtjakdbahopbggaaGreatDoor
