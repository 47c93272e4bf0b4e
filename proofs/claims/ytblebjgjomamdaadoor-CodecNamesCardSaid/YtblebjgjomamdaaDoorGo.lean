/- The package-level tables in the memory of the evaluator with an oracle. Conditions: none. -/
import Derived.Test.YtblebjgjomamdaaDoorGl
import Derived.Test.YtblebjgjomamdaaDoorCor
namespace Go.Proofs.YtblebjgjomamdaaDoor
open Go.RowKit Go.ChangeShapes

-- the evaluator's memory
noncomputable def goCells : List (Nat × List Ov.AV) :=
  (0, resRow.map fun s => .lit (.string s)) ::
  (1, .lit (.slice none 0 0) :: (List.range' 1 15).map fun i => .sl (2 + i) 0 (evRow i).length (.known (evRow i).length)) ::
  (List.range' 1 15).map fun i => (2 + i, (evRow i).map fun (n : Nat) => .lit (.int .u8 n))
def goMap (A : Nat → Nat × Nat) : Ov.G := ⟨fun b => if b < 2 then some (b, 0) else if b < 18 then some (A (b - 2)) else none, fun _ => none⟩
noncomputable def goStart : Ov.H := Ov.startAt 18 goCells
theorem goHr {A : Nat → Nat × Nat} {w : World} (h : Gl A w) : Ov.HR (goMap A) goStart (fun B => w.heap[B]?) w w := by
  refine Ov.hr_known (fun b hb => ?_) (fun t => rfl) ?_
  · simp only [goMap]
    rw [if_neg (by omega), if_neg (by omega)]
  · intro b cs hm
    simp only [goCells, List.mem_cons, List.mem_map, Prod.mk.injEq] at hm
    rcases hm with ⟨rfl, rfl⟩ | ⟨rfl, rfl⟩ | ⟨i, hi, rfl, rfl⟩
    · obtain ⟨cs, t, h1, h2, h3⟩ := h.res
      refine ⟨0, 0, cs, t, by simp [goMap], h1, by rw [h2]; decide, fun i v hv => ?_⟩
      rw [List.getElem?_map, Option.map_eq_some_iff] at hv
      obtain ⟨s, hs, rfl⟩ := hv
      exact ⟨_, by rw [Nat.zero_add]; exact h3 i s hs, .lit _⟩
    · obtain ⟨cs, t, h1, h2, h3, h4⟩ := h.evs
      refine ⟨1, 0, cs, t, by simp [goMap], h1, by rw [h2]; decide, fun i v hv => ?_⟩
      rw [Nat.zero_add]
      cases i with
      | zero =>
        simp at hv
        subst hv
        exact ⟨_, h3, .lit _⟩
      | succ i =>
        rw [List.getElem?_cons_succ, List.getElem?_map, Option.map_eq_some_iff] at hv
        obtain ⟨j, hj, rfl⟩ := hv
        have hi : i < 15 := by have := (List.getElem?_eq_some_iff.1 hj).1; simpa using this
        rw [List.getElem?_range' hi] at hj
        injection hj with hj
        obtain rfl : j = i + 1 := by omega
        refine ⟨_, h4 (i + 1) (by omega) (by omega), ?_⟩
        refine .sl (B := (A (i + 1)).1) (O := (A (i + 1)).2) ?_ (.known _)
        simp only [goMap]
        rw [if_neg (by omega), if_pos (by omega)]
        congr 2
        omega
    · rw [List.mem_range'] at hi
      obtain ⟨q, hq, rfl⟩ := hi
      obtain ⟨cs, t, h1, h2, h3⟩ := h.row (1 + 1 * q) (by omega) (by omega)
      refine ⟨(A (1 + 1 * q)).1, (A (1 + 1 * q)).2, cs, t, ?_, h1, by rw [List.length_map]; exact h2, fun j v hv => ?_⟩
      · simp only [goMap]
        rw [if_neg (by omega), if_pos (by omega)]
        congr 2
        omega
      · rw [List.getElem?_map, Option.map_eq_some_iff] at hv
        obtain ⟨x, hx, rfl⟩ := hv
        exact ⟨_, h3 j x hx, .lit _⟩
/-- a closed function that says true by the evaluator returns true -/
theorem goYes {A : Nat → Nat × Nat} {w : World} (h : Gl A w) {fuel : Nat} {f : FuncId} (hc : Ov.yes (Ov.callWith Tryd.prog (Ov.run Tryd.prog orc fuel) f [] goStart) = true) :
    Calls Tryd.prog f #[] w fun e w' => e = .returned (.bool true) ∧ Below w.heap.size w w' :=
  Ov.yes_known mixed orc_ok hc w (fun g hg => by rw [globals2] at hg; simp [goMap, hg]) (goHr h)

end Go.Proofs.YtblebjgjomamdaaDoor
