/- The drawn region of callboardref14.Same (two nodes laid in boxes): what each operation leaves. Conditions: none. -/
import Derived.Test.YtjakdbahopbggaaGreatDoorZK43
import Derived.Test.YtjakdbahopbggaaGreatDoorZSvQ
namespace Go.Proofs.YtjakdbahopbggaaGreatDoor
open Go.RowKit Go.Ow Go.Inv2

/-- the two boxes are apart -/
structure SmJ (B : Nat) (vs : Nat → Value) (W : World) : Prop where
  a : ∀ g, vs 10 = .pointer (some ⟨g, 0, none⟩) → B ≤ g ∧ g < W.heap.size
  b : ∀ g, vs 11 = .pointer (some ⟨g, 0, none⟩) → B ≤ g ∧ g < W.heap.size
  ne : ∀ g, vs 10 = .pointer (some ⟨g, 0, none⟩) → vs 11 ≠ .pointer (some ⟨g, 0, none⟩)
theorem SmJ.start (B : Nat) (W : World) : SmJ B (fun _ => undef) W := ⟨fun _ h => (by cases h), fun _ h => (by cases h), fun _ h => (by cases h)⟩
theorem SmJ.keep {B : Nat} {vs : Nat → Value} {W W' : World} (h : SmJ B vs W) {i : Nat} (v : Value) (h0 : 10 ≠ i) (h1 : 11 ≠ i) (hs : W.heap.size ≤ W'.heap.size) : SmJ B (upd vs i v) W' := by
  have e0 := upd_ne vs v h0
  have e1 := upd_ne vs v h1
  refine ⟨fun g hg => ?_, fun g hg => ?_, fun g hg => ?_⟩
  · rw [e0] at hg; have := h.a g hg; omega
  · rw [e1] at hg; have := h.b g hg; omega
  · rw [e0] at hg; rw [e1]; exact h.ne g hg
theorem SmJ.a10 {B : Nat} {vs : Nat → Value} {W : World} (h : SmJ B vs W) (hB : B ≤ W.heap.size) (o : Obj) : SmJ B (upd vs 10 (.pointer (some ⟨W.heap.size, 0, none⟩))) (W.alloc o) := by
  have e1 := upd_ne vs (.pointer (some ⟨W.heap.size, 0, none⟩)) (show 11 ≠ 10 by decide)
  have hz : (W.alloc o).heap.size = W.heap.size + 1 := by simp
  refine ⟨fun g hg => ?_, fun g hg => ?_, fun g hg => ?_⟩
  · rw [upd_self] at hg; cases hg; omega
  · rw [e1] at hg; have := h.b g hg; omega
  · rw [upd_self] at hg; cases hg; rw [e1]; intro h2; have := h.b _ h2; omega
theorem SmJ.a11 {B : Nat} {vs : Nat → Value} {W : World} (h : SmJ B vs W) (hB : B ≤ W.heap.size) (o : Obj) : SmJ B (upd vs 11 (.pointer (some ⟨W.heap.size, 0, none⟩))) (W.alloc o) := by
  have e1 := upd_ne vs (.pointer (some ⟨W.heap.size, 0, none⟩)) (show 10 ≠ 11 by decide)
  have hz : (W.alloc o).heap.size = W.heap.size + 1 := by simp
  refine ⟨fun g hg => ?_, fun g hg => ?_, fun g hg => ?_⟩
  · rw [e1] at hg; have := h.a g hg; omega
  · rw [upd_self] at hg; cases hg; omega
  · rw [e1] at hg; rw [upd_self]; intro h2; cases h2; have := h.a _ hg; omega

/-- eleven cells written one after the other -/
theorem stored11 {w : World} {g : Nat} {c0 c1 c2 c3 c4 c5 c6 c7 c8 c9 c10 : Value} {e : TypeId} (h : w.heap[g]? = some (.cells #[c0, c1, c2, c3, c4, c5, c6, c7, c8, c9, c10] e (0, 0))) (v0 v1 v2 v3 v4 v5 v6 v7 v8 v9 v10 : Value) :
    (((((((((((w.setCell ⟨g, 0, none⟩ v0).setCell ⟨g, 1, none⟩ v1).setCell ⟨g, 2, none⟩ v2).setCell ⟨g, 3, none⟩ v3).setCell ⟨g, 4, none⟩ v4).setCell ⟨g, 5, none⟩ v5).setCell ⟨g, 6, none⟩ v6).setCell ⟨g, 7, none⟩ v7).setCell ⟨g, 8, none⟩ v8).setCell ⟨g, 9, none⟩ v9).setCell ⟨g, 10, none⟩ v10).heap[g]? = some (.cells #[v0, v1, v2, v3, v4, v5, v6, v7, v8, v9, v10] e (0, 0)) := by
  have h0 := But.heap (o := 0) (u := v0) h
  rw [show (#[c0, c1, c2, c3, c4, c5, c6, c7, c8, c9, c10] : Array Value).setIfInBounds 0 v0 = #[v0, c1, c2, c3, c4, c5, c6, c7, c8, c9, c10] from rfl] at h0
  have h1 := But.heap (o := 1) (u := v1) h0
  rw [show (#[v0, c1, c2, c3, c4, c5, c6, c7, c8, c9, c10] : Array Value).setIfInBounds 1 v1 = #[v0, v1, c2, c3, c4, c5, c6, c7, c8, c9, c10] from rfl] at h1
  have h2 := But.heap (o := 2) (u := v2) h1
  rw [show (#[v0, v1, c2, c3, c4, c5, c6, c7, c8, c9, c10] : Array Value).setIfInBounds 2 v2 = #[v0, v1, v2, c3, c4, c5, c6, c7, c8, c9, c10] from rfl] at h2
  have h3 := But.heap (o := 3) (u := v3) h2
  rw [show (#[v0, v1, v2, c3, c4, c5, c6, c7, c8, c9, c10] : Array Value).setIfInBounds 3 v3 = #[v0, v1, v2, v3, c4, c5, c6, c7, c8, c9, c10] from rfl] at h3
  have h4 := But.heap (o := 4) (u := v4) h3
  rw [show (#[v0, v1, v2, v3, c4, c5, c6, c7, c8, c9, c10] : Array Value).setIfInBounds 4 v4 = #[v0, v1, v2, v3, v4, c5, c6, c7, c8, c9, c10] from rfl] at h4
  have h5 := But.heap (o := 5) (u := v5) h4
  rw [show (#[v0, v1, v2, v3, v4, c5, c6, c7, c8, c9, c10] : Array Value).setIfInBounds 5 v5 = #[v0, v1, v2, v3, v4, v5, c6, c7, c8, c9, c10] from rfl] at h5
  have h6 := But.heap (o := 6) (u := v6) h5
  rw [show (#[v0, v1, v2, v3, v4, v5, c6, c7, c8, c9, c10] : Array Value).setIfInBounds 6 v6 = #[v0, v1, v2, v3, v4, v5, v6, c7, c8, c9, c10] from rfl] at h6
  have h7 := But.heap (o := 7) (u := v7) h6
  rw [show (#[v0, v1, v2, v3, v4, v5, v6, c7, c8, c9, c10] : Array Value).setIfInBounds 7 v7 = #[v0, v1, v2, v3, v4, v5, v6, v7, c8, c9, c10] from rfl] at h7
  have h8 := But.heap (o := 8) (u := v8) h7
  rw [show (#[v0, v1, v2, v3, v4, v5, v6, v7, c8, c9, c10] : Array Value).setIfInBounds 8 v8 = #[v0, v1, v2, v3, v4, v5, v6, v7, v8, c9, c10] from rfl] at h8
  have h9 := But.heap (o := 9) (u := v9) h8
  rw [show (#[v0, v1, v2, v3, v4, v5, v6, v7, v8, c9, c10] : Array Value).setIfInBounds 9 v9 = #[v0, v1, v2, v3, v4, v5, v6, v7, v8, v9, c10] from rfl] at h9
  have h10 := But.heap (o := 10) (u := v10) h9
  rw [show (#[v0, v1, v2, v3, v4, v5, v6, v7, v8, v9, c10] : Array Value).setIfInBounds 10 v10 = #[v0, v1, v2, v3, v4, v5, v6, v7, v8, v9, v10] from rfl] at h10
  exact h10
theorem turned11 (w : World) (g : Nat) (v0 v1 v2 v3 v4 v5 v6 v7 v8 v9 v10 : Value) :
    But g w (((((((((((w.setCell ⟨g, 0, none⟩ v0).setCell ⟨g, 1, none⟩ v1).setCell ⟨g, 2, none⟩ v2).setCell ⟨g, 3, none⟩ v3).setCell ⟨g, 4, none⟩ v4).setCell ⟨g, 5, none⟩ v5).setCell ⟨g, 6, none⟩ v6).setCell ⟨g, 7, none⟩ v7).setCell ⟨g, 8, none⟩ v8).setCell ⟨g, 9, none⟩ v9).setCell ⟨g, 10, none⟩ v10) := ((((((((((But.setCell _ _ _ _).trans (But.setCell _ _ _ _)).trans (But.setCell _ _ _ _)).trans (But.setCell _ _ _ _)).trans (But.setCell _ _ _ _)).trans (But.setCell _ _ _ _)).trans (But.setCell _ _ _ _)).trans (But.setCell _ _ _ _)).trans (But.setCell _ _ _ _)).trans (But.setCell _ _ _ _)).trans (But.setCell _ _ _ _)

/-- what each operation of the region leaves -/
def smF (px py b off b2 off2 k mx cx my cy : Nat) (z z2 : Nod) : Nat → Value → List Value → World → Prop
  | 0, u, _, _ => u = .pointer (some ⟨px, 2, none⟩)
  | 1, u, _, _ => u = .slice (some ⟨b, off, none⟩) mx cx
  | 2, u, _, _ => u = .int .i64 k
  | 3, u, _, _ => u = .pointer (some ⟨b, off + k * 11, none⟩)
  | 4, u, _, _ => u = .agg z.cs
  | 5, u, _, _ => u = .pointer (some ⟨py, 2, none⟩)
  | 6, u, _, _ => u = .slice (some ⟨b2, off2, none⟩) my cy
  | 7, u, _, _ => u = .int .i64 k
  | 8, u, _, _ => u = .pointer (some ⟨b2, off2 + k * 11, none⟩)
  | 9, u, _, _ => u = .agg z2.cs
  | 10, u, _, w => ∃ g, u = .pointer (some ⟨g, 0, none⟩) ∧ w.heap[g]? = some (.cells #[.string ⟨#[]⟩, .int .u8 0, .int .i64 0, .int .i64 0, .int .u8 0, .string ⟨#[]⟩, .string ⟨#[]⟩, .string ⟨#[]⟩, .bool false, .slice none 0 0, .slice none 0 0] 111 (0, 0))
  | 11, u, _, w => ∃ g, u = .pointer (some ⟨g, 0, none⟩) ∧ w.heap[g]? = some (.cells #[.string ⟨#[]⟩, .int .u8 0, .int .i64 0, .int .i64 0, .int .u8 0, .string ⟨#[]⟩, .string ⟨#[]⟩, .string ⟨#[]⟩, .bool false, .slice none 0 0, .slice none 0 0] 111 (0, 0))
  | 12, _, ds, w => ∃ g, ds.getD 0 undef = .pointer (some ⟨g, 0, none⟩) ∧ w.heap[g]? = some (.cells z.cs 111 (0, 0))
  | 13, _, ds, w => ∃ g, ds.getD 0 undef = .pointer (some ⟨g, 0, none⟩) ∧ w.heap[g]? = some (.cells z2.cs 111 (0, 0))
  | _, _, _, _ => True
def smAnc (i : Nat) : List Nat := ([[], [0], [], [0, 1, 2], [0, 1, 2, 3], [], [5], [], [5, 6, 7], [5, 6, 7, 8], [], [], [0, 1, 2, 3, 4, 10, 11], [0, 1, 2, 3, 4, 5, 6, 7, 8, 9, 10, 11, 12]] : List (List Nat)).getD i []
def smNeed (i : Nat) : List Nat := ([[], [0], [], [1, 2], [3], [], [5], [], [6, 7], [8], [], [], [10, 4, 10], [11, 9, 11]] : List (List Nat)).getD i []
def smDep (i : Nat) : List Nat := ([[], [], [], [], [], [], [], [], [], [], [], [], [10], [11]] : List (List Nat)).getD i []
def smKill (i j : Nat) : Bool := (i == 12 && j == 10) || (i == 13 && j == 11) || (i == 13 && j == 10)
def smPure (j : Nat) : Bool := !([10, 11, 12, 13].contains j)
theorem smF_pure {j : Nat} {u : Value} {ds : List Value} {w w' : World} {px py b off b2 off2 k mx cx my cy : Nat} {z z2 : Nod} (hp : smPure j = true) (h : smF px py b off b2 off2 k mx cx my cy z z2 j u ds w) : smF px py b off b2 off2 k mx cx my cy z z2 j u ds w' := by
  match j with
  | 0 => exact h
  | 1 => exact h
  | 2 => exact h
  | 3 => exact h
  | 4 => exact h
  | 5 => exact h
  | 6 => exact h
  | 7 => exact h
  | 8 => exact h
  | 9 => exact h
  | 10 => exact absurd hp (by decide)
  | 11 => exact absurd hp (by decide)
  | 12 => exact absurd hp (by decide)
  | 13 => exact absurd hp (by decide)
  | _ + 14 => trivial
theorem smF_mono {j : Nat} {u : Value} {ds : List Value} {w w' : World} {px py b off b2 off2 k mx cx my cy : Nat} {z z2 : Nod} (hb : Below w.heap.size w w') (h : smF px py b off b2 off2 k mx cx my cy z z2 j u ds w) : smF px py b off b2 off2 k mx cx my cy z z2 j u ds w' := by
  match j with
  | 0 => exact h
  | 1 => exact h
  | 2 => exact h
  | 3 => exact h
  | 4 => exact h
  | 5 => exact h
  | 6 => exact h
  | 7 => exact h
  | 8 => exact h
  | 9 => exact h
  | 10 => obtain ⟨g, h1, h2⟩ := h; exact ⟨g, h1, by rw [hb.block g (Array.getElem?_eq_some_iff.1 h2).1]; exact h2⟩
  | 11 => obtain ⟨g, h1, h2⟩ := h; exact ⟨g, h1, by rw [hb.block g (Array.getElem?_eq_some_iff.1 h2).1]; exact h2⟩
  | 12 => obtain ⟨g, h1, h2⟩ := h; exact ⟨g, h1, by rw [hb.block g (Array.getElem?_eq_some_iff.1 h2).1]; exact h2⟩
  | 13 => obtain ⟨g, h1, h2⟩ := h; exact ⟨g, h1, by rw [hb.block g (Array.getElem?_eq_some_iff.1 h2).1]; exact h2⟩
  | _ + 14 => trivial
theorem smKeep (x : List Nat) {i : Nat} (h : ((List.range 14).all fun j => smPure j || j == i || smKill i j || (smAnc j).contains i || x.contains j) = true) {w w' : World} {px py b off b2 off2 k mx cx my cy : Nat} {z z2 : Nod} : ∀ j (vs' : Nat → Value), j ≠ i → smKill i j = false → (smAnc j).contains i = false → (x.contains j = false) →
    asrt (smF px py b off b2 off2 k mx cx my cy z z2) smDep j vs' w → asrt (smF px py b off b2 off2 k mx cx my cy z z2) smDep j vs' w' := by
  intro j vs' h1 h2 h3 h0 h4
  by_cases hj : j < 14
  · have := List.all_eq_true.1 h j (List.mem_range.2 hj)
    rw [h2, h3, h0] at this
    simp only [Bool.or_false, Bool.or_eq_true, beq_iff_eq] at this
    rcases this with h5 | h5
    · exact smF_pure h5 h4
    · exact absurd h5 h1
  · exact smF_pure (by unfold smPure; simp; omega) h4
theorem smAnc_out {j : Nat} (h : 14 ≤ j) : smAnc j = [] := by
  unfold smAnc
  rw [List.getD_eq_getElem?_getD, List.getElem?_eq_none (by simpa using h)]
  rfl
theorem smDep_out {j : Nat} (h : 14 ≤ j) : smDep j = [] := by
  unfold smDep
  rw [List.getD_eq_getElem?_getD, List.getElem?_eq_none (by simpa using h)]
  rfl
theorem smDep_anc : ∀ j, ∀ d ∈ smDep j, d ∈ smAnc j := by
  intro j d hd
  by_cases h : j < 14
  · exact (by decide : ∀ j, j < 14 → ∀ d ∈ smDep j, d ∈ smAnc j) j h d hd
  · rw [smDep_out (by omega)] at hd
    cases hd
end Go.Proofs.YtjakdbahopbggaaGreatDoor
