/- The drawn regions of model.Copy: what each operation leaves. Conditions: none. -/
import Derived.Test.YtdnelpmolenkoaaDoorMClone
import Derived.Test.YtdnelpmolenkoaaDoorInv2
import Derived.Test.YtdnelpmolenkoaaDoorBut
namespace Go.Proofs.YtdnelpmolenkoaaDoor
open Go.RowKit Go.Ow Go.Inv2

theorem ownC_mono {w w' : World} {B C : Nat} {e : TypeId} {n : Nat} {u : Value} {xs : List Value} (h : w.ownsRow B e C u n xs) (hb : Below w.heap.size w w') : w'.ownsRow B e C u n xs :=
  ⟨h.1, h.2.imp id fun ⟨g, cap, cur, a1, a2, a3, a4⟩ => ⟨g, cap, cur, a1, a2, by rw [hb.block g (Array.getElem?_eq_some_iff.1 a3).1]; exact a3, a4⟩⟩
theorem ownC_base {w : World} {B B' C : Nat} {e : TypeId} {n : Nat} {u : Value} {xs : List Value} (h : w.ownsRow B e C u n xs) (hB : B' ≤ B) : w.ownsRow B' e C u n xs :=
  ⟨h.1, h.2.imp id fun ⟨g, cap, cur, a1, a2, a3⟩ => ⟨g, cap, cur, a1, Nat.le_trans hB a2, a3⟩⟩
/-- a block of another type has turned: the row has not -/
theorem ownC_but {w w' : World} {B C G : Nat} {e e' : TypeId} {n : Nat} {u : Value} {xs : List Value} {cur' : Array Value} {fr : Nat × Nat} (h : w.ownsRow B e C u n xs) (hG : w.heap[G]? = some (.cells cur' e' fr)) (hne : e ≠ e') (hb : But G w w') : w'.ownsRow B e C u n xs :=
  ⟨h.1, h.2.imp id fun ⟨g, cap, cur, a1, a2, a3, a4⟩ => ⟨g, cap, cur, a1, a2, by rw [hb.block g (Array.getElem?_eq_some_iff.1 a3).1 (fun e0 => by subst e0; rw [a3] at hG; simp at hG; exact hne hG.2.1)]; exact a3, a4⟩⟩
theorem ownC_blk {w : World} {B C : Nat} {e : TypeId} {n : Nat} {u : Value} {xs : List Value} (h : w.ownsRow B e C u n xs) : ∀ g, u.ownBlock = some g → B ≤ g ∧ g < w.heap.size := by
  intro g hg
  rcases h.2 with ⟨rfl, _⟩ | ⟨g', cap, cur, rfl, hb, hh, _⟩
  · simp [Value.ownBlock] at hg
  · simp [Value.ownBlock] at hg
    subst hg
    exact ⟨hb, (Array.getElem?_eq_some_iff.1 hh).1⟩
theorem ownC_form {w : World} {B C : Nat} {e : TypeId} {n : Nat} {u : Value} {xs : List Value} (h : w.ownsRow B e C u n xs) : ∃ o c, u = .slice o n c ∧ n ≤ c := by
  rcases h.2 with ⟨rfl, rfl⟩ | ⟨g, cap, cur, rfl, _, _, hn, _⟩
  · exact ⟨none, 0, rfl, Nat.le_refl _⟩
  · exact ⟨_, cap, rfl, hn⟩
theorem But.heap {G : Nat} {w : World} {o : Nat} {u : Value} {cur : Array Value} {e : TypeId} (h : w.heap[G]? = some (.cells cur e (0, 0))) : (w.setCell ⟨G, o, none⟩ u).heap[G]? = some (.cells (cur.setIfInBounds o u) e (0, 0)) := by
  simp [World.setCell, Array.getElem?_modify, h]
theorem cell_in {G : Nat} {w : World} {cur : Array Value} {e : TypeId} (h : w.heap[G]? = some (.cells cur e (0, 0))) (o : Nat) : w.cell? ⟨G, o, none⟩ = cur[o]? := cell_of_row w G o cur e (0, 0) h
theorem froz_in {G : Nat} {w : World} {cur : Array Value} {e : TypeId} (h : w.heap[G]? = some (.cells cur e (0, 0))) (o : Nat) : w.frozen? ⟨G, o, none⟩ = false := by
  unfold World.frozen?
  rw [h]
  simp

/-- what each operation of the region leaves -/
def cpAF (B b : Nat) (xp : Pr) : Nat → Value → List Value → World → Prop
  | 0, u, _, _ => u = .pointer (some ⟨b, 0, none⟩)
  | 1, u, _, _ => u = .string xp.name
  | 2, u, _, _ => u = .pointer (some ⟨b, 1, none⟩)
  | 3, u, _, _ => u = .slice xp.vo xp.vm xp.vc
  | 4, u, _, w => w.ownsRow B 43 4 u xp.vm (rcs (varL xp.vf) 0 xp.vm)
  | 5, u, _, _ => u = .pointer (some ⟨b, 2, none⟩)
  | 6, u, _, _ => u = .slice xp.no xp.nn xp.nc
  | 7, u, _, w => w.ownsRow B 25 11 u xp.nn (rcs (nodeL xp.nf) 0 xp.nn)
  | 8, u, _, _ => u = .pointer (some ⟨b, 3, none⟩)
  | 9, u, _, _ => u = .slice xp.fo xp.fn xp.fc
  | 10, u, _, w => w.ownsRow B 48 4 u xp.fn (rcs (flowL xp.ff) 0 xp.fn)
  | 11, u, ds, _ => u = .agg #[.string xp.name, ds.getD 0 undef, ds.getD 1 undef, ds.getD 2 undef]
  | 12, u, _, w => ∃ g, u = .pointer (some ⟨g, 0, none⟩) ∧ B ≤ g ∧ w.heap[g]? = some (.cells #[.string ⟨#[]⟩, .slice none 0 0, .slice none 0 0, .slice none 0 0] 30 (0, 0))
  | 13, _, ds, w => ∃ g, ds.getD 0 undef = .pointer (some ⟨g, 0, none⟩) ∧ B ≤ g ∧ w.heap[g]? = some (.cells #[.string xp.name, ds.getD 1 undef, ds.getD 2 undef, ds.getD 3 undef] 30 (0, 0))
  | _, _, _, _ => True
def cpAAnc (i : Nat) : List Nat := ([[], [0], [], [2], [2, 3], [], [5], [2, 3, 4, 5, 6], [], [8], [2, 3, 4, 5, 6, 7, 8, 9], [0, 1, 2, 3, 4, 5, 6, 7, 8, 9, 10], [], [0, 1, 2, 3, 4, 5, 6, 7, 8, 9, 10, 11, 12]] : List (List Nat)).getD i []
def cpANeed (i : Nat) : List Nat := ([[], [0], [], [2], [3], [], [5], [6], [], [8], [9], [1, 4, 7, 10], [], [12, 11, 4, 7, 10]] : List (List Nat)).getD i []
def cpADep (i : Nat) : List Nat := ([[], [], [], [], [], [], [], [], [], [], [], [4, 7, 10], [], [12, 4, 7, 10]] : List (List Nat)).getD i []
def cpAKill (i j : Nat) : Bool := (i == 13 && j == 12)
def cpAPure (j : Nat) : Bool := !([4, 7, 10, 12, 13].contains j)
theorem cpAF_pure {j : Nat} {u : Value} {ds : List Value} {w w' : World} {B b : Nat} {xp : Pr} (hp : cpAPure j = true) (h : cpAF B b xp j u ds w) : cpAF B b xp j u ds w' := by
  match j with
  | 0 => exact h
  | 1 => exact h
  | 2 => exact h
  | 3 => exact h
  | 4 => exact absurd hp (by decide)
  | 5 => exact h
  | 6 => exact h
  | 7 => exact absurd hp (by decide)
  | 8 => exact h
  | 9 => exact h
  | 10 => exact absurd hp (by decide)
  | 11 => exact h
  | 12 => exact absurd hp (by decide)
  | 13 => exact absurd hp (by decide)
  | _ + 14 => trivial
theorem cpAF_mono {j : Nat} {u : Value} {ds : List Value} {w w' : World} {B b : Nat} {xp : Pr} (hb : Below w.heap.size w w') (h : cpAF B b xp j u ds w) : cpAF B b xp j u ds w' := by
  match j with
  | 0 => exact h
  | 1 => exact h
  | 2 => exact h
  | 3 => exact h
  | 4 => exact ownC_mono h hb
  | 5 => exact h
  | 6 => exact h
  | 7 => exact ownC_mono h hb
  | 8 => exact h
  | 9 => exact h
  | 10 => exact ownC_mono h hb
  | 11 => exact h
  | 12 => obtain ⟨g, h1, h2, h3⟩ := h; exact ⟨g, h1, h2, by rw [hb.block g (Array.getElem?_eq_some_iff.1 h3).1]; exact h3⟩
  | 13 => obtain ⟨g, h1, h2, h3⟩ := h; exact ⟨g, h1, h2, by rw [hb.block g (Array.getElem?_eq_some_iff.1 h3).1]; exact h3⟩
  | _ + 14 => trivial
theorem cpAKeep (x : List Nat) {i : Nat} (h : ((List.range 14).all fun j => cpAPure j || j == i || cpAKill i j || (cpAAnc j).contains i || x.contains j) = true) {w w' : World} {B b : Nat} {xp : Pr} : ∀ j (vs' : Nat → Value), j ≠ i → cpAKill i j = false → (cpAAnc j).contains i = false → (x.contains j = false) →
    asrt (cpAF B b xp) cpADep j vs' w → asrt (cpAF B b xp) cpADep j vs' w' := by
  intro j vs' h1 h2 h3 h0 h4
  by_cases hj : j < 14
  · have := List.all_eq_true.1 h j (List.mem_range.2 hj)
    rw [h2, h3, h0] at this
    simp only [Bool.or_false, Bool.or_eq_true, beq_iff_eq] at this
    rcases this with h5 | h5
    · exact cpAF_pure h5 h4
    · exact absurd h5 h1
  · exact cpAF_pure (by unfold cpAPure; simp; omega) h4
theorem cpAAnc_out {j : Nat} (h : 14 ≤ j) : cpAAnc j = [] := by
  unfold cpAAnc
  rw [List.getD_eq_getElem?_getD, List.getElem?_eq_none (by simpa using h)]
  rfl
theorem cpADep_out {j : Nat} (h : 14 ≤ j) : cpADep j = [] := by
  unfold cpADep
  rw [List.getD_eq_getElem?_getD, List.getElem?_eq_none (by simpa using h)]
  rfl
theorem cpADep_anc : ∀ j, ∀ d ∈ cpADep j, d ∈ cpAAnc j := by
  intro j d hd
  by_cases h : j < 14
  · exact (by decide : ∀ j, j < 14 → ∀ d ∈ cpADep j, d ∈ cpAAnc j) j h d hd
  · rw [cpADep_out (by omega)] at hd
    cases hd
/-- what each operation of the region leaves -/
def cpBF (B G jn : Nat) (cur : Array Value) (z : Nod) : Nat → Value → List Value → World → Prop
  | 0, u, _, _ => u = .pointer (some ⟨G, jn * 11, none⟩)
  | 1, u, _, _ => u = .pointer (some ⟨G, jn * 11, none⟩)
  | 2, u, _, _ => u = .pointer (some ⟨G, jn * 11, none⟩)
  | 3, u, _, _ => u = .pointer (some ⟨G, jn * 11, none⟩)
  | 4, u, _, _ => u = .pointer (some ⟨G, jn * 11 + 9, none⟩)
  | 5, u, _, _ => u = .slice z.o z.m z.c
  | 6, u, _, w => w.ownsRow B 43 4 u z.m (rcs (varL z.f) 0 z.m)
  | 7, u, _, _ => u = .pointer (some ⟨G, jn * 11, none⟩)
  | 8, u, _, _ => u = .pointer (some ⟨G, jn * 11, none⟩)
  | 9, u, _, _ => u = .pointer (some ⟨G, jn * 11 + 10, none⟩)
  | 10, u, _, _ => u = .slice z.p z.n z.q
  | 11, u, _, w => w.ownsRow B 9 1 u z.n (rcs (strL z.g) 0 z.n)
  | 12, u, _, _ => u = .pointer (some ⟨G, jn * 11, none⟩)
  | 13, u, _, _ => u = .pointer (some ⟨G, jn * 11 + 9, none⟩)
  | 14, _, ds, w => w.heap[G]? = some (.cells (cur.setIfInBounds (jn * 11 + 9) (ds.getD 0 undef)) 25 (0, 0))
  | 15, u, _, _ => u = .pointer (some ⟨G, jn * 11, none⟩)
  | 16, u, _, _ => u = .pointer (some ⟨G, jn * 11 + 10, none⟩)
  | 17, _, ds, w => w.heap[G]? = some (.cells ((cur.setIfInBounds (jn * 11 + 9) (ds.getD 0 undef)).setIfInBounds (jn * 11 + 10) (ds.getD 1 undef)) 25 (0, 0))
  | 18, _, _, w => w.heap[G]? = some (.cells cur 25 (0, 0))
  | _, _, _, _ => True
def cpBAnc (i : Nat) : List Nat := ([[], [], [], [2], [2, 3], [2, 3, 4], [2, 3, 4, 5], [], [7], [7, 8], [7, 8, 9], [2, 3, 4, 5, 6, 7, 8, 9, 10], [0, 2, 3, 4, 5, 6, 7, 8, 9, 10, 11], [0, 2, 3, 4, 5, 6, 7, 8, 9, 10, 11, 12], [0, 2, 3, 4, 5, 6, 7, 8, 9, 10, 11, 12, 13], [0, 1, 2, 3, 4, 5, 6, 7, 8, 9, 10, 11, 12, 13, 14], [0, 1, 2, 3, 4, 5, 6, 7, 8, 9, 10, 11, 12, 13, 14, 15], [0, 1, 2, 3, 4, 5, 6, 7, 8, 9, 10, 11, 12, 13, 14, 15, 16]] : List (List Nat)).getD i []
def cpBNeed (i : Nat) : List Nat := ([[], [], [], [2], [3], [4, 18], [5], [], [7], [8], [9, 18], [10], [0], [12], [13, 6, 18], [1], [15], [16, 11, 14, 6]] : List (List Nat)).getD i []
def cpBDep (i : Nat) : List Nat := ([[], [], [], [], [], [], [], [], [], [], [], [], [], [], [6], [], [], [6, 11]] : List (List Nat)).getD i []
def cpBKill (i j : Nat) : Bool := (i == 14 && j == 18) || (i == 17 && j == 18) || (i == 17 && j == 14)
def cpBPure (j : Nat) : Bool := !([6, 11, 14, 17, 18].contains j)
theorem cpBF_pure {j : Nat} {u : Value} {ds : List Value} {w w' : World} {B G jn : Nat} {cur : Array Value} {z : Nod} (hp : cpBPure j = true) (h : cpBF B G jn cur z j u ds w) : cpBF B G jn cur z j u ds w' := by
  match j with
  | 0 => exact h
  | 1 => exact h
  | 2 => exact h
  | 3 => exact h
  | 4 => exact h
  | 5 => exact h
  | 6 => exact absurd hp (by decide)
  | 7 => exact h
  | 8 => exact h
  | 9 => exact h
  | 10 => exact h
  | 11 => exact absurd hp (by decide)
  | 12 => exact h
  | 13 => exact h
  | 14 => exact absurd hp (by decide)
  | 15 => exact h
  | 16 => exact h
  | 17 => exact absurd hp (by decide)
  | 18 => exact absurd hp (by decide)
  | _ + 19 => trivial
theorem cpBF_mono {j : Nat} {u : Value} {ds : List Value} {w w' : World} {B G jn : Nat} {cur : Array Value} {z : Nod} (hb : Below w.heap.size w w') (h : cpBF B G jn cur z j u ds w) : cpBF B G jn cur z j u ds w' := by
  match j with
  | 0 => exact h
  | 1 => exact h
  | 2 => exact h
  | 3 => exact h
  | 4 => exact h
  | 5 => exact h
  | 6 => exact ownC_mono h hb
  | 7 => exact h
  | 8 => exact h
  | 9 => exact h
  | 10 => exact h
  | 11 => exact ownC_mono h hb
  | 12 => exact h
  | 13 => exact h
  | 14 => exact Eq.trans (hb.block G (Array.getElem?_eq_some_iff.1 h).1) h
  | 15 => exact h
  | 16 => exact h
  | 17 => exact Eq.trans (hb.block G (Array.getElem?_eq_some_iff.1 h).1) h
  | 18 => exact Eq.trans (hb.block G (Array.getElem?_eq_some_iff.1 h).1) h
  | _ + 19 => trivial
theorem cpBKeep (x : List Nat) {i : Nat} (h : ((List.range 19).all fun j => cpBPure j || j == i || cpBKill i j || (cpBAnc j).contains i || x.contains j) = true) {w w' : World} {B G jn : Nat} {cur : Array Value} {z : Nod} : ∀ j (vs' : Nat → Value), j ≠ i → cpBKill i j = false → (cpBAnc j).contains i = false → (x.contains j = false) →
    asrt (cpBF B G jn cur z) cpBDep j vs' w → asrt (cpBF B G jn cur z) cpBDep j vs' w' := by
  intro j vs' h1 h2 h3 h0 h4
  by_cases hj : j < 19
  · have := List.all_eq_true.1 h j (List.mem_range.2 hj)
    rw [h2, h3, h0] at this
    simp only [Bool.or_false, Bool.or_eq_true, beq_iff_eq] at this
    rcases this with h5 | h5
    · exact cpBF_pure h5 h4
    · exact absurd h5 h1
  · exact cpBF_pure (by unfold cpBPure; simp; omega) h4
theorem cpBAnc_out {j : Nat} (h : 18 ≤ j) : cpBAnc j = [] := by
  unfold cpBAnc
  rw [List.getD_eq_getElem?_getD, List.getElem?_eq_none (by simpa using h)]
  rfl
theorem cpBDep_out {j : Nat} (h : 18 ≤ j) : cpBDep j = [] := by
  unfold cpBDep
  rw [List.getD_eq_getElem?_getD, List.getElem?_eq_none (by simpa using h)]
  rfl
theorem cpBDep_anc : ∀ j, ∀ d ∈ cpBDep j, d ∈ cpBAnc j := by
  intro j d hd
  by_cases h : j < 18
  · exact (by decide : ∀ j, j < 18 → ∀ d ∈ cpBDep j, d ∈ cpBAnc j) j h d hd
  · rw [cpBDep_out (by omega)] at hd
    cases hd
end Go.Proofs.YtdnelpmolenkoaaDoor
