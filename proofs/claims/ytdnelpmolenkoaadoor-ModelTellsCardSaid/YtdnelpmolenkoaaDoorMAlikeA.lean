/- The drawn regions of ModelAlike: what each operation leaves. Conditions: none. -/
import Derived.Test.YtdnelpmolenkoaaDoorMAlike2
namespace Go.Proofs.YtdnelpmolenkoaaDoor
open Go.RowKit Go.Ow Go.Inv2

theorem rcs_snoc (cell : Nat → List Value) : ∀ n i, rcs cell i (n + 1) = rcs cell i n ++ cell (i + n)
  | 0, i => by simp [rcs]
  | n + 1, i => by
    rw [rcs, rcs_snoc cell n (i + 1), rcs, List.append_assoc, show i + 1 + n = i + (n + 1) by omega]
theorem rcs_ext {cell cell' : Nat → List Value} : ∀ n i, (∀ k, i ≤ k → k < i + n → cell k = cell' k) → rcs cell i n = rcs cell' i n
  | 0, _, _ => rfl
  | n + 1, i, h => by rw [rcs, rcs, h i (Nat.le_refl _) (by omega), rcs_ext n (i + 1) fun k h1 h2 => h k (by omega) (by omega)]
theorem more_row (g : Nat → ByteArray) (n : Nat) : rcs (strL g) 0 n ++ [.string moreT] = rcs (strL (moreG g n)) 0 (n + 1) := by
  rw [rcs_snoc, Nat.zero_add]
  have h1 : rcs (strL (moreG g n)) 0 n = rcs (strL g) 0 n := rcs_ext n 0 fun k _ hk => by unfold strL moreG; rw [if_pos (by omega)]
  have h2 : strL (moreG g n) n = [.string moreT] := by unfold strL moreG; rw [if_neg (by omega)]
  rw [h1, h2]
/-- an append to a row of texts: a row elsewhere is as it was; so are blocks of other types -/
theorem own_grow {w W : World} {B C : Nat} {e : TypeId} {n : Nat} {u : Value} {xs : List Value} {row : Option Nat} (h : w.ownsRow B e C u n xs) (hg : w.grownBy W row) (hr : ∀ g, u.ownBlock = some g → row ≠ some g) : W.ownsRow B e C u n xs :=
  ⟨h.1, h.2.imp id fun ⟨g, cap, cur, a1, a2, a3, a4⟩ => ⟨g, cap, cur, a1, a2, by rw [hg.block g (Array.getElem?_eq_some_iff.1 a3).1 (fun e => hr g (by rw [a1]; rfl) e.symm)]; exact a3, a4⟩⟩
theorem grown_block {w W : World} {B C : Nat} {e e' : TypeId} {n : Nat} {u : Value} {xs : List Value} {G : Nat} {cur : Array Value} {fr : Nat × Nat} (h : w.ownsRow B e C u n xs) (hg : w.grownBy W u.ownBlock) (hG : w.heap[G]? = some (.cells cur e' fr)) (hne : e ≠ e') : W.heap[G]? = some (.cells cur e' fr) := by
  rw [hg.block G (Array.getElem?_eq_some_iff.1 hG).1 (fun he => ?_)]
  · exact hG
  · rcases h.2 with ⟨rfl, _⟩ | ⟨g, cap, cur', rfl, _, hh, _⟩
    · simp [Value.ownBlock] at he
    · simp [Value.ownBlock] at he
      subst he
      rw [hG] at hh
      simp at hh
      exact hne hh.2.1.symm
theorem kp_grown {w W : World} {B C : Nat} {T : TypeId → Bool} {e : TypeId} {n : Nat} {u : Value} {xs : List Value} (h : w.ownsRow B e C u n xs) (hg : w.grownBy W u.ownBlock) (hB : B ≤ w.heap.size) (hT : T e = false) : Kp B T w W :=
  ⟨hg.os, hg.tape, hg.output, hg.size, fun b hb => hg.block b (by omega) (fun he => by have := (ownC_blk h b he.symm).1; omega), fun b cur e' fr h1 h2 => grown_block h hg h1 (fun he => by rw [← he, hT] at h2; cases h2)⟩

/-- what each operation of the region leaves -/
def alTF (B : Nat) (xp yp : Pr) : Nat → Value → List Value → World → Prop
  | 0, u, _, _ => u = .agg #[.string xp.name, .slice xp.vo xp.vm xp.vc, .slice xp.no xp.nn xp.nc, .slice xp.fo xp.fn xp.fc]
  | 1, u, _, _ => u = .agg #[.string yp.name, .slice yp.vo yp.vm yp.vc, .slice yp.no yp.nn yp.nc, .slice yp.fo yp.fn yp.fc]
  | 2, u, _, _ => u = .bool true
  | 3, u, _, _ => u = .agg #[.string yp.name, .slice yp.vo yp.vm yp.vc, .slice yp.no yp.nn yp.nc, .slice yp.fo yp.fn yp.fc]
  | 4, u, _, _ => u = .agg #[.string xp.name, .slice xp.vo xp.vm xp.vc, .slice xp.no xp.nn xp.nc, .slice xp.fo xp.fn xp.fc]
  | 5, u, _, _ => u = .bool true
  | 6, u, _, _ => u = .bool false
  | 7, u, _, _ => u = .bool false
  | 8, u, _, _ => u = .agg #[.string xp.name, .slice xp.vo xp.vm xp.vc, .slice xp.no xp.nn xp.nc, .slice xp.fo xp.fn xp.fc]
  | 9, u, _, w => ∃ z : Pr, u = .agg z.cs ∧ z.like xp ∧ z.own B w ∧ ∀ k, z.nn ≤ k → z.nf k = xp.nf k
  | 10, u, _, _ => u = .agg #[.string xp.name, .slice xp.vo xp.vm xp.vc, .slice xp.no xp.nn xp.nc, .slice xp.fo xp.fn xp.fc]
  | 11, u, _, _ => u = .bool true
  | 12, u, _, _ => u = .bool false
  | 13, u, _, _ => u = .bool false
  | 14, u, _, _ => u = .bool false
  | 15, u, _, _ => u = .agg #[.string xp.name, .slice xp.vo xp.vm xp.vc, .slice xp.no xp.nn xp.nc, .slice xp.fo xp.fn xp.fc]
  | 16, u, _, _ => u = .agg #[.string yp.name, .slice yp.vo yp.vm yp.vc, .slice yp.no yp.nn yp.nc, .slice yp.fo yp.fn yp.fc]
  | 17, u, _, _ => u = .bool true
  | 18, u, _, _ => u = .bool true
  | 19, u, _, _ => u = .agg #[.string xp.name, .slice xp.vo xp.vm xp.vc, .slice xp.no xp.nn xp.nc, .slice xp.fo xp.fn xp.fc]
  | 20, u, _, _ => u = .int .i64 xp.e
  | 21, u, _, _ => u = .agg #[.string yp.name, .slice yp.vo yp.vm yp.vc, .slice yp.no yp.nn yp.nc, .slice yp.fo yp.fn yp.fc]
  | 22, u, _, _ => u = .int .i64 xp.e
  | 23, u, _, _ => u = .bool false
  | 24, u, _, _ => u = .bool false
  | 25, u, _, _ => u = .bool false
  | _, _, _, _ => True
def alTAnc (i : Nat) : List Nat := ([[], [], [0, 1], [], [], [0, 1, 2, 3, 4], [0, 1, 2, 3, 4, 5], [0, 1, 2, 3, 4, 5, 6], [0, 1, 2, 3, 4, 5, 6, 7], [0, 1, 2, 3, 4, 5, 6, 7, 8], [0, 1, 2, 3, 4, 5, 6, 7], [0, 1, 2, 3, 4, 5, 6, 7, 8, 9, 10], [0, 1, 2, 3, 4, 5, 6, 7, 8, 9, 10, 11], [0, 1, 2, 3, 4, 5, 6, 7, 8, 9, 10, 11, 12], [0, 1, 2, 3, 4, 5, 6, 7, 8, 9, 10, 11, 12, 13], [0, 1, 2, 3, 4, 5, 6, 7, 8, 9, 10, 11, 12, 13, 14], [0, 1, 2, 3, 4, 5, 6, 7, 8, 9, 10, 11, 12, 13, 14], [0, 1, 2, 3, 4, 5, 6, 7, 8, 9, 10, 11, 12, 13, 14, 15, 16], [0, 1, 2, 3, 4, 5, 6, 7, 8, 9, 10, 11, 12, 13, 14, 15, 16, 17], [0, 1, 2, 3, 4, 5, 6, 7, 8, 9, 10, 11, 12, 13, 14, 15, 16, 17, 18], [0, 1, 2, 3, 4, 5, 6, 7, 8, 9, 10, 11, 12, 13, 14, 15, 16, 17, 18, 19], [0, 1, 2, 3, 4, 5, 6, 7, 8, 9, 10, 11, 12, 13, 14, 15, 16, 17, 18], [0, 1, 2, 3, 4, 5, 6, 7, 8, 9, 10, 11, 12, 13, 14, 15, 16, 17, 18, 19, 20, 21], [0, 1, 2, 3, 4, 5, 6, 7, 8, 9, 10, 11, 12, 13, 14, 15, 16, 17, 18, 19, 20, 21, 22], [0, 1, 2, 3, 4, 5, 6, 7, 8, 9, 10, 11, 12, 13, 14, 15, 16, 17, 18, 19, 20, 21, 22, 23], [0, 1, 2, 3, 4, 5, 6, 7, 8, 9, 10, 11, 12, 13, 14, 15, 16, 17, 18, 19, 20, 21, 22, 23, 24]] : List (List Nat)).getD i []
def alTNeed (i : Nat) : List Nat := ([[], [], [0, 1], [], [], [3, 4], [2, 5], [6], [7], [8, 7], [7], [9, 10, 7], [11, 7], [7, 12], [13], [14], [14], [15, 16, 14], [17, 14], [18], [19, 18], [18], [21, 18], [20, 22, 18], [18, 23, 14], [14, 24]] : List (List Nat)).getD i []
def alTDep (i : Nat) : List Nat := ([[], [], [], [], [], [], [], [], [], [], [], [], [], [], [], [], [], [], [], [], [], [], [], [], [], []] : List (List Nat)).getD i []
def alTKill (_ _ : Nat) : Bool := false
def alTPure (j : Nat) : Bool := !([9].contains j)
theorem alTF_pure {j : Nat} {u : Value} {ds : List Value} {w w' : World} {B : Nat} {xp yp : Pr} (hp : alTPure j = true) (h : alTF B xp yp j u ds w) : alTF B xp yp j u ds w' := by
  match j with
  | 0 => exact h
  | 1 => exact h
  | 2 => exact h
  | 3 => exact h
  | 4 => exact h
  | 5 => exact h
  | 6 => exact h
  | 7 => exact h
  | 8 => exact h
  | 9 => exact absurd hp (by decide)
  | 10 => exact h
  | 11 => exact h
  | 12 => exact h
  | 13 => exact h
  | 14 => exact h
  | 15 => exact h
  | 16 => exact h
  | 17 => exact h
  | 18 => exact h
  | 19 => exact h
  | 20 => exact h
  | 21 => exact h
  | 22 => exact h
  | 23 => exact h
  | 24 => exact h
  | 25 => exact h
  | _ + 26 => trivial
theorem alTF_mono {j : Nat} {u : Value} {ds : List Value} {w w' : World} {B : Nat} {xp yp : Pr} (hb : Below w.heap.size w w') (h : alTF B xp yp j u ds w) : alTF B xp yp j u ds w' := by
  match j with
  | 0 => exact h
  | 1 => exact h
  | 2 => exact h
  | 3 => exact h
  | 4 => exact h
  | 5 => exact h
  | 6 => exact h
  | 7 => exact h
  | 8 => exact h
  | 9 => obtain ⟨z, h1, h2, h3, h4⟩ := h; exact ⟨z, h1, h2, Pr.own_mono h3 hb, h4⟩
  | 10 => exact h
  | 11 => exact h
  | 12 => exact h
  | 13 => exact h
  | 14 => exact h
  | 15 => exact h
  | 16 => exact h
  | 17 => exact h
  | 18 => exact h
  | 19 => exact h
  | 20 => exact h
  | 21 => exact h
  | 22 => exact h
  | 23 => exact h
  | 24 => exact h
  | 25 => exact h
  | _ + 26 => trivial
theorem alTKeep (x : List Nat) {i : Nat} (h : ((List.range 26).all fun j => alTPure j || j == i || alTKill i j || (alTAnc j).contains i || x.contains j) = true) {w w' : World} {B : Nat} {xp yp : Pr} : ∀ j (vs' : Nat → Value), j ≠ i → alTKill i j = false → (alTAnc j).contains i = false → (x.contains j = false) →
    asrt (alTF B xp yp) alTDep j vs' w → asrt (alTF B xp yp) alTDep j vs' w' := by
  intro j vs' h1 h2 h3 h0 h4
  by_cases hj : j < 26
  · have := List.all_eq_true.1 h j (List.mem_range.2 hj)
    rw [h2, h3, h0] at this
    simp only [Bool.or_false, Bool.or_eq_true, beq_iff_eq] at this
    rcases this with h5 | h5
    · exact alTF_pure h5 h4
    · exact absurd h5 h1
  · exact alTF_pure (by unfold alTPure; simp; omega) h4
theorem alTAnc_out {j : Nat} (h : 26 ≤ j) : alTAnc j = [] := by
  unfold alTAnc
  rw [List.getD_eq_getElem?_getD, List.getElem?_eq_none (by simpa using h)]
  rfl
theorem alTDep_out {j : Nat} (h : 26 ≤ j) : alTDep j = [] := by
  unfold alTDep
  rw [List.getD_eq_getElem?_getD, List.getElem?_eq_none (by simpa using h)]
  rfl
theorem alTDep_anc : ∀ j, ∀ d ∈ alTDep j, d ∈ alTAnc j := by
  intro j d hd
  by_cases h : j < 26
  · exact (by decide : ∀ j, j < 26 → ∀ d ∈ alTDep j, d ∈ alTAnc j) j h d hd
  · rw [alTDep_out (by omega)] at hd
    cases hd
/-- what each operation of the region leaves -/
def alNF (B : Nat) (xp yp : Pr) : Nat → Value → List Value → World → Prop
  | 0, u, _, _ => u = .agg #[.string xp.name, .slice xp.vo xp.vm xp.vc, .slice xp.no xp.nn xp.nc, .slice xp.fo xp.fn xp.fc]
  | 1, u, _, _ => u = .agg #[.string yp.name, .slice yp.vo yp.vm yp.vc, .slice yp.no yp.nn yp.nc, .slice yp.fo yp.fn yp.fc]
  | 2, u, _, _ => u = .bool false
  | 3, u, _, _ => u = .agg #[.string yp.name, .slice yp.vo yp.vm yp.vc, .slice yp.no yp.nn yp.nc, .slice yp.fo yp.fn yp.fc]
  | 4, u, _, _ => u = .agg #[.string xp.name, .slice xp.vo xp.vm xp.vc, .slice xp.no xp.nn xp.nc, .slice xp.fo xp.fn xp.fc]
  | 5, u, _, _ => u = .bool false
  | 6, u, _, _ => u = .bool false
  | 7, u, _, _ => u = .bool false
  | 8, u, _, _ => u = .agg #[.string xp.name, .slice xp.vo xp.vm xp.vc, .slice xp.no xp.nn xp.nc, .slice xp.fo xp.fn xp.fc]
  | 9, u, _, w => ∃ z : Pr, u = .agg z.cs ∧ z.like xp ∧ z.own B w ∧ ∀ k, z.nn ≤ k → z.nf k = xp.nf k
  | 10, u, _, _ => u = .agg #[.string xp.name, .slice xp.vo xp.vm xp.vc, .slice xp.no xp.nn xp.nc, .slice xp.fo xp.fn xp.fc]
  | 11, u, _, _ => u = .bool true
  | 12, u, _, _ => u = .bool false
  | 13, u, _, _ => u = .bool false
  | 14, u, _, _ => u = .bool false
  | 15, u, _, _ => u = .agg #[.string xp.name, .slice xp.vo xp.vm xp.vc, .slice xp.no xp.nn xp.nc, .slice xp.fo xp.fn xp.fc]
  | 16, u, _, _ => u = .agg #[.string yp.name, .slice yp.vo yp.vm yp.vc, .slice yp.no yp.nn yp.nc, .slice yp.fo yp.fn yp.fc]
  | 17, u, _, _ => u = .bool false
  | 18, u, _, _ => u = .bool false
  | 19, u, _, _ => u = undef
  | 20, u, _, _ => u = undef
  | 21, u, _, _ => u = undef
  | 22, u, _, _ => u = undef
  | 23, u, _, _ => u = undef
  | 24, u, _, _ => u = .bool false
  | 25, u, _, _ => u = .bool false
  | _, _, _, _ => True
def alNAnc (i : Nat) : List Nat := ([[], [], [0, 1], [], [], [0, 1, 2, 3, 4], [0, 1, 2, 3, 4, 5], [0, 1, 2, 3, 4, 5, 6], [0, 1, 2, 3, 4, 5, 6, 7], [0, 1, 2, 3, 4, 5, 6, 7, 8], [0, 1, 2, 3, 4, 5, 6, 7], [0, 1, 2, 3, 4, 5, 6, 7, 8, 9, 10], [0, 1, 2, 3, 4, 5, 6, 7, 8, 9, 10, 11], [0, 1, 2, 3, 4, 5, 6, 7, 8, 9, 10, 11, 12], [0, 1, 2, 3, 4, 5, 6, 7, 8, 9, 10, 11, 12, 13], [0, 1, 2, 3, 4, 5, 6, 7, 8, 9, 10, 11, 12, 13, 14], [0, 1, 2, 3, 4, 5, 6, 7, 8, 9, 10, 11, 12, 13, 14], [0, 1, 2, 3, 4, 5, 6, 7, 8, 9, 10, 11, 12, 13, 14, 15, 16], [0, 1, 2, 3, 4, 5, 6, 7, 8, 9, 10, 11, 12, 13, 14, 15, 16, 17], [0, 1, 2, 3, 4, 5, 6, 7, 8, 9, 10, 11, 12, 13, 14, 15, 16, 17, 18], [0, 1, 2, 3, 4, 5, 6, 7, 8, 9, 10, 11, 12, 13, 14, 15, 16, 17, 18, 19], [0, 1, 2, 3, 4, 5, 6, 7, 8, 9, 10, 11, 12, 13, 14, 15, 16, 17, 18], [0, 1, 2, 3, 4, 5, 6, 7, 8, 9, 10, 11, 12, 13, 14, 15, 16, 17, 18, 19, 20, 21], [0, 1, 2, 3, 4, 5, 6, 7, 8, 9, 10, 11, 12, 13, 14, 15, 16, 17, 18, 19, 20, 21, 22], [0, 1, 2, 3, 4, 5, 6, 7, 8, 9, 10, 11, 12, 13, 14, 15, 16, 17, 18, 19, 20, 21, 22, 23], [0, 1, 2, 3, 4, 5, 6, 7, 8, 9, 10, 11, 12, 13, 14, 15, 16, 17, 18, 19, 20, 21, 22, 23, 24]] : List (List Nat)).getD i []
def alNNeed (i : Nat) : List Nat := ([[], [], [0, 1], [], [], [3, 4], [2, 5], [6], [7], [8, 7], [7], [9, 10, 7], [11, 7], [7, 12], [13], [14], [14], [15, 16, 14], [17, 14], [18], [19, 18], [18], [21, 18], [20, 22, 18], [18, 23, 14], [14, 24]] : List (List Nat)).getD i []
def alNDep (i : Nat) : List Nat := ([[], [], [], [], [], [], [], [], [], [], [], [], [], [], [], [], [], [], [], [], [], [], [], [], [], []] : List (List Nat)).getD i []
def alNKill (_ _ : Nat) : Bool := false
def alNPure (j : Nat) : Bool := !([9].contains j)
theorem alNF_pure {j : Nat} {u : Value} {ds : List Value} {w w' : World} {B : Nat} {xp yp : Pr} (hp : alNPure j = true) (h : alNF B xp yp j u ds w) : alNF B xp yp j u ds w' := by
  match j with
  | 0 => exact h
  | 1 => exact h
  | 2 => exact h
  | 3 => exact h
  | 4 => exact h
  | 5 => exact h
  | 6 => exact h
  | 7 => exact h
  | 8 => exact h
  | 9 => exact absurd hp (by decide)
  | 10 => exact h
  | 11 => exact h
  | 12 => exact h
  | 13 => exact h
  | 14 => exact h
  | 15 => exact h
  | 16 => exact h
  | 17 => exact h
  | 18 => exact h
  | 19 => exact h
  | 20 => exact h
  | 21 => exact h
  | 22 => exact h
  | 23 => exact h
  | 24 => exact h
  | 25 => exact h
  | _ + 26 => trivial
theorem alNF_mono {j : Nat} {u : Value} {ds : List Value} {w w' : World} {B : Nat} {xp yp : Pr} (hb : Below w.heap.size w w') (h : alNF B xp yp j u ds w) : alNF B xp yp j u ds w' := by
  match j with
  | 0 => exact h
  | 1 => exact h
  | 2 => exact h
  | 3 => exact h
  | 4 => exact h
  | 5 => exact h
  | 6 => exact h
  | 7 => exact h
  | 8 => exact h
  | 9 => obtain ⟨z, h1, h2, h3, h4⟩ := h; exact ⟨z, h1, h2, Pr.own_mono h3 hb, h4⟩
  | 10 => exact h
  | 11 => exact h
  | 12 => exact h
  | 13 => exact h
  | 14 => exact h
  | 15 => exact h
  | 16 => exact h
  | 17 => exact h
  | 18 => exact h
  | 19 => exact h
  | 20 => exact h
  | 21 => exact h
  | 22 => exact h
  | 23 => exact h
  | 24 => exact h
  | 25 => exact h
  | _ + 26 => trivial
theorem alNKeep (x : List Nat) {i : Nat} (h : ((List.range 26).all fun j => alNPure j || j == i || alNKill i j || (alNAnc j).contains i || x.contains j) = true) {w w' : World} {B : Nat} {xp yp : Pr} : ∀ j (vs' : Nat → Value), j ≠ i → alNKill i j = false → (alNAnc j).contains i = false → (x.contains j = false) →
    asrt (alNF B xp yp) alNDep j vs' w → asrt (alNF B xp yp) alNDep j vs' w' := by
  intro j vs' h1 h2 h3 h0 h4
  by_cases hj : j < 26
  · have := List.all_eq_true.1 h j (List.mem_range.2 hj)
    rw [h2, h3, h0] at this
    simp only [Bool.or_false, Bool.or_eq_true, beq_iff_eq] at this
    rcases this with h5 | h5
    · exact alNF_pure h5 h4
    · exact absurd h5 h1
  · exact alNF_pure (by unfold alNPure; simp; omega) h4
theorem alNAnc_out {j : Nat} (h : 26 ≤ j) : alNAnc j = [] := by
  unfold alNAnc
  rw [List.getD_eq_getElem?_getD, List.getElem?_eq_none (by simpa using h)]
  rfl
theorem alNDep_out {j : Nat} (h : 26 ≤ j) : alNDep j = [] := by
  unfold alNDep
  rw [List.getD_eq_getElem?_getD, List.getElem?_eq_none (by simpa using h)]
  rfl
theorem alNDep_anc : ∀ j, ∀ d ∈ alNDep j, d ∈ alNAnc j := by
  intro j d hd
  by_cases h : j < 26
  · exact (by decide : ∀ j, j < 26 → ∀ d ∈ alNDep j, d ∈ alNAnc j) j h d hd
  · rw [alNDep_out (by omega)] at hd
    cases hd
/-- what each operation of the region leaves -/
def alBF (D G n c kn : Nat) (b : Bool) (cur : Array Value) : Nat → Value → List Value → World → Prop
  | 0, u, _, _ => u = .pointer (some ⟨D, 2, none⟩)
  | 1, u, _, _ => u = .slice (some ⟨G, 0, none⟩) n c
  | 2, u, _, _ => u = .int .i64 kn
  | 3, u, _, _ => u = .pointer (some ⟨D, 2, none⟩)
  | 4, u, _, _ => u = .slice (some ⟨G, 0, none⟩) n c
  | 5, u, _, _ => u = .int .i64 kn
  | 6, u, _, _ => u = .pointer (some ⟨G, kn * 11, none⟩)
  | 7, u, _, _ => u = .pointer (some ⟨G, kn * 11 + 8, none⟩)
  | 8, u, _, _ => u = .bool b
  | 9, u, _, _ => u = .bool (!b)
  | 10, u, _, _ => u = .pointer (some ⟨G, kn * 11, none⟩)
  | 11, u, _, _ => u = .pointer (some ⟨G, kn * 11 + 8, none⟩)
  | 12, _, _, w => w.heap[G]? = some (.cells (cur.setIfInBounds (kn * 11 + 8) (.bool (!b))) 25 (0, 0))
  | 13, _, _, w => w.heap[G]? = some (.cells cur 25 (0, 0))
  | _, _, _, _ => True
def alBAnc (i : Nat) : List Nat := ([[], [0], [], [], [3], [], [3, 4, 5], [3, 4, 5, 6], [3, 4, 5, 6, 7], [3, 4, 5, 6, 7, 8], [0, 1, 2, 3, 4, 5, 6, 7, 8, 9], [0, 1, 2, 3, 4, 5, 6, 7, 8, 9, 10], [0, 1, 2, 3, 4, 5, 6, 7, 8, 9, 10, 11]] : List (List Nat)).getD i []
def alBNeed (i : Nat) : List Nat := ([[], [0], [], [], [3], [], [4, 5], [6], [7, 13], [8], [1, 2], [10], [11, 9, 13]] : List (List Nat)).getD i []
def alBDep (i : Nat) : List Nat := ([[], [], [], [], [], [], [], [], [], [], [], [], []] : List (List Nat)).getD i []
def alBKill (i j : Nat) : Bool := (i == 12 && j == 13)
def alBPure (j : Nat) : Bool := !([12, 13].contains j)
theorem alBF_pure {j : Nat} {u : Value} {ds : List Value} {w w' : World} {D G n c kn : Nat} {b : Bool} {cur : Array Value} (hp : alBPure j = true) (h : alBF D G n c kn b cur j u ds w) : alBF D G n c kn b cur j u ds w' := by
  match j with
  | 0 => exact h
  | 1 => exact h
  | 2 => exact h
  | 3 => exact h
  | 4 => exact h
  | 5 => exact h
  | 6 => exact h
  | 7 => exact h
  | 8 => exact h
  | 9 => exact h
  | 10 => exact h
  | 11 => exact h
  | 12 => exact absurd hp (by decide)
  | 13 => exact absurd hp (by decide)
  | _ + 14 => trivial
theorem alBF_mono {j : Nat} {u : Value} {ds : List Value} {w w' : World} {D G n c kn : Nat} {b : Bool} {cur : Array Value} (hb : Below w.heap.size w w') (h : alBF D G n c kn b cur j u ds w) : alBF D G n c kn b cur j u ds w' := by
  match j with
  | 0 => exact h
  | 1 => exact h
  | 2 => exact h
  | 3 => exact h
  | 4 => exact h
  | 5 => exact h
  | 6 => exact h
  | 7 => exact h
  | 8 => exact h
  | 9 => exact h
  | 10 => exact h
  | 11 => exact h
  | 12 => exact Eq.trans (hb.block G (Array.getElem?_eq_some_iff.1 h).1) h
  | 13 => exact Eq.trans (hb.block G (Array.getElem?_eq_some_iff.1 h).1) h
  | _ + 14 => trivial
theorem alBKeep (x : List Nat) {i : Nat} (h : ((List.range 14).all fun j => alBPure j || j == i || alBKill i j || (alBAnc j).contains i || x.contains j) = true) {w w' : World} {D G n c kn : Nat} {b : Bool} {cur : Array Value} : ∀ j (vs' : Nat → Value), j ≠ i → alBKill i j = false → (alBAnc j).contains i = false → (x.contains j = false) →
    asrt (alBF D G n c kn b cur) alBDep j vs' w → asrt (alBF D G n c kn b cur) alBDep j vs' w' := by
  intro j vs' h1 h2 h3 h0 h4
  by_cases hj : j < 14
  · have := List.all_eq_true.1 h j (List.mem_range.2 hj)
    rw [h2, h3, h0] at this
    simp only [Bool.or_false, Bool.or_eq_true, beq_iff_eq] at this
    rcases this with h5 | h5
    · exact alBF_pure h5 h4
    · exact absurd h5 h1
  · exact alBF_pure (by unfold alBPure; simp; omega) h4
theorem alBAnc_out {j : Nat} (h : 13 ≤ j) : alBAnc j = [] := by
  unfold alBAnc
  rw [List.getD_eq_getElem?_getD, List.getElem?_eq_none (by simpa using h)]
  rfl
theorem alBDep_out {j : Nat} (h : 13 ≤ j) : alBDep j = [] := by
  unfold alBDep
  rw [List.getD_eq_getElem?_getD, List.getElem?_eq_none (by simpa using h)]
  rfl
theorem alBDep_anc : ∀ j, ∀ d ∈ alBDep j, d ∈ alBAnc j := by
  intro j d hd
  by_cases h : j < 13
  · exact (by decide : ∀ j, j < 13 → ∀ d ∈ alBDep j, d ∈ alBAnc j) j h d hd
  · rw [alBDep_out (by omega)] at hd
    cases hd
/-- what each operation of the region leaves -/
def alDF (D G n c kn : Nat) (b : Bool) (cur : Array Value) : Nat → Value → List Value → World → Prop
  | 0, u, _, _ => u = .pointer (some ⟨D, 3, none⟩)
  | 1, u, _, _ => u = .slice (some ⟨G, 0, none⟩) n c
  | 2, u, _, _ => u = .int .i64 kn
  | 3, u, _, _ => u = .pointer (some ⟨D, 3, none⟩)
  | 4, u, _, _ => u = .slice (some ⟨G, 0, none⟩) n c
  | 5, u, _, _ => u = .int .i64 kn
  | 6, u, _, _ => u = .pointer (some ⟨G, kn * 4, none⟩)
  | 7, u, _, _ => u = .pointer (some ⟨G, kn * 4 + 3, none⟩)
  | 8, u, _, _ => u = .bool b
  | 9, u, _, _ => u = .bool (!b)
  | 10, u, _, _ => u = .pointer (some ⟨G, kn * 4, none⟩)
  | 11, u, _, _ => u = .pointer (some ⟨G, kn * 4 + 3, none⟩)
  | 12, _, _, w => w.heap[G]? = some (.cells (cur.setIfInBounds (kn * 4 + 3) (.bool (!b))) 48 (0, 0))
  | 13, _, _, w => w.heap[G]? = some (.cells cur 48 (0, 0))
  | _, _, _, _ => True
def alDAnc (i : Nat) : List Nat := ([[], [0], [], [], [3], [], [3, 4, 5], [3, 4, 5, 6], [3, 4, 5, 6, 7], [3, 4, 5, 6, 7, 8], [0, 1, 2, 3, 4, 5, 6, 7, 8, 9], [0, 1, 2, 3, 4, 5, 6, 7, 8, 9, 10], [0, 1, 2, 3, 4, 5, 6, 7, 8, 9, 10, 11]] : List (List Nat)).getD i []
def alDNeed (i : Nat) : List Nat := ([[], [0], [], [], [3], [], [4, 5], [6], [7, 13], [8], [1, 2], [10], [11, 9, 13]] : List (List Nat)).getD i []
def alDDep (i : Nat) : List Nat := ([[], [], [], [], [], [], [], [], [], [], [], [], []] : List (List Nat)).getD i []
def alDKill (i j : Nat) : Bool := (i == 12 && j == 13)
def alDPure (j : Nat) : Bool := !([12, 13].contains j)
theorem alDF_pure {j : Nat} {u : Value} {ds : List Value} {w w' : World} {D G n c kn : Nat} {b : Bool} {cur : Array Value} (hp : alDPure j = true) (h : alDF D G n c kn b cur j u ds w) : alDF D G n c kn b cur j u ds w' := by
  match j with
  | 0 => exact h
  | 1 => exact h
  | 2 => exact h
  | 3 => exact h
  | 4 => exact h
  | 5 => exact h
  | 6 => exact h
  | 7 => exact h
  | 8 => exact h
  | 9 => exact h
  | 10 => exact h
  | 11 => exact h
  | 12 => exact absurd hp (by decide)
  | 13 => exact absurd hp (by decide)
  | _ + 14 => trivial
theorem alDF_mono {j : Nat} {u : Value} {ds : List Value} {w w' : World} {D G n c kn : Nat} {b : Bool} {cur : Array Value} (hb : Below w.heap.size w w') (h : alDF D G n c kn b cur j u ds w) : alDF D G n c kn b cur j u ds w' := by
  match j with
  | 0 => exact h
  | 1 => exact h
  | 2 => exact h
  | 3 => exact h
  | 4 => exact h
  | 5 => exact h
  | 6 => exact h
  | 7 => exact h
  | 8 => exact h
  | 9 => exact h
  | 10 => exact h
  | 11 => exact h
  | 12 => exact Eq.trans (hb.block G (Array.getElem?_eq_some_iff.1 h).1) h
  | 13 => exact Eq.trans (hb.block G (Array.getElem?_eq_some_iff.1 h).1) h
  | _ + 14 => trivial
theorem alDKeep (x : List Nat) {i : Nat} (h : ((List.range 14).all fun j => alDPure j || j == i || alDKill i j || (alDAnc j).contains i || x.contains j) = true) {w w' : World} {D G n c kn : Nat} {b : Bool} {cur : Array Value} : ∀ j (vs' : Nat → Value), j ≠ i → alDKill i j = false → (alDAnc j).contains i = false → (x.contains j = false) →
    asrt (alDF D G n c kn b cur) alDDep j vs' w → asrt (alDF D G n c kn b cur) alDDep j vs' w' := by
  intro j vs' h1 h2 h3 h0 h4
  by_cases hj : j < 14
  · have := List.all_eq_true.1 h j (List.mem_range.2 hj)
    rw [h2, h3, h0] at this
    simp only [Bool.or_false, Bool.or_eq_true, beq_iff_eq] at this
    rcases this with h5 | h5
    · exact alDF_pure h5 h4
    · exact absurd h5 h1
  · exact alDF_pure (by unfold alDPure; simp; omega) h4
theorem alDAnc_out {j : Nat} (h : 13 ≤ j) : alDAnc j = [] := by
  unfold alDAnc
  rw [List.getD_eq_getElem?_getD, List.getElem?_eq_none (by simpa using h)]
  rfl
theorem alDDep_out {j : Nat} (h : 13 ≤ j) : alDDep j = [] := by
  unfold alDDep
  rw [List.getD_eq_getElem?_getD, List.getElem?_eq_none (by simpa using h)]
  rfl
theorem alDDep_anc : ∀ j, ∀ d ∈ alDDep j, d ∈ alDAnc j := by
  intro j d hd
  by_cases h : j < 13
  · exact (by decide : ∀ j, j < 13 → ∀ d ∈ alDDep j, d ∈ alDAnc j) j h d hd
  · rw [alDDep_out (by omega)] at hd
    cases hd
/-- what each operation of the region leaves -/
def alCF (B D G n c kn : Nat) (yp : Pr) (cur : Array Value) : Nat → Value → List Value → World → Prop
  | 0, u, _, _ => u = .pointer (some ⟨D, 2, none⟩)
  | 1, u, _, _ => u = .slice (some ⟨G, 0, none⟩) n c
  | 2, u, _, _ => u = .int .i64 kn
  | 3, u, _, _ => u = .pointer (some ⟨D, 2, none⟩)
  | 4, u, _, _ => u = .slice (some ⟨G, 0, none⟩) n c
  | 5, u, _, _ => u = .int .i64 kn
  | 6, u, _, _ => u = .pointer (some ⟨G, kn * 11, none⟩)
  | 7, u, _, _ => u = .pointer (some ⟨G, kn * 11 + 10, none⟩)
  | 8, u, _, _ => u = .slice (yp.nf kn).p (yp.nf kn).n (yp.nf kn).q
  | 9, u, _, w => ∃ g, u = .slice (some ⟨g, 0, none⟩) 1 1 ∧ w.heap[g]? = some (.cells #[.string moreT] 9 (0, 0))
  | 10, u, _, w => w.ownsRow B 9 1 u ((yp.nf kn).n + 1) (rcs (strL (moreG (yp.nf kn).g (yp.nf kn).n)) 0 ((yp.nf kn).n + 1))
  | 11, u, _, _ => u = .pointer (some ⟨G, kn * 11, none⟩)
  | 12, u, _, _ => u = .pointer (some ⟨G, kn * 11 + 10, none⟩)
  | 13, _, ds, w => w.heap[G]? = some (.cells (cur.setIfInBounds (kn * 11 + 10) (ds.getD 0 undef)) 25 (0, 0))
  | 14, _, _, w => w.heap[G]? = some (.cells cur 25 (0, 0))
  | 15, _, _, w => w.ownsRow B 9 1 (.slice (yp.nf kn).p (yp.nf kn).n (yp.nf kn).q) (yp.nf kn).n (rcs (strL (yp.nf kn).g) 0 (yp.nf kn).n)
  | 16, _, _, w => ∀ i, i < yp.nn → i ≠ kn → w.ownsRow B 9 1 (.slice (yp.nf i).p (yp.nf i).n (yp.nf i).q) (yp.nf i).n (rcs (strL (yp.nf i).g) 0 (yp.nf i).n)
  | _, _, _, _ => True
def alCAnc (i : Nat) : List Nat := ([[], [0], [], [], [3], [], [3, 4, 5], [3, 4, 5, 6], [3, 4, 5, 6, 7], [], [3, 4, 5, 6, 7, 8, 9], [0, 1, 2, 3, 4, 5, 6, 7, 8, 9, 10], [0, 1, 2, 3, 4, 5, 6, 7, 8, 9, 10, 11], [0, 1, 2, 3, 4, 5, 6, 7, 8, 9, 10, 11, 12]] : List (List Nat)).getD i []
def alCNeed (i : Nat) : List Nat := ([[], [0], [], [], [3], [], [4, 5], [6], [7, 14], [], [8, 9, 15], [1, 2], [11], [12, 10, 14]] : List (List Nat)).getD i []
def alCDep (i : Nat) : List Nat := ([[], [], [], [], [], [], [], [], [], [], [], [], [], [10]] : List (List Nat)).getD i []
def alCKill (i j : Nat) : Bool := (i == 13 && j == 14) || (i == 10 && j == 15) || (i == 13 && j == 15) || (i == 10 && j == 9) || (i == 13 && j == 9)
def alCPure (j : Nat) : Bool := !([9, 10, 13, 14, 15, 16].contains j)
theorem alCF_pure {j : Nat} {u : Value} {ds : List Value} {w w' : World} {B D G n c kn : Nat} {yp : Pr} {cur : Array Value} (hp : alCPure j = true) (h : alCF B D G n c kn yp cur j u ds w) : alCF B D G n c kn yp cur j u ds w' := by
  match j with
  | 0 => exact h
  | 1 => exact h
  | 2 => exact h
  | 3 => exact h
  | 4 => exact h
  | 5 => exact h
  | 6 => exact h
  | 7 => exact h
  | 8 => exact h
  | 9 => exact absurd hp (by decide)
  | 10 => exact absurd hp (by decide)
  | 11 => exact h
  | 12 => exact h
  | 13 => exact absurd hp (by decide)
  | 14 => exact absurd hp (by decide)
  | 15 => exact absurd hp (by decide)
  | 16 => exact absurd hp (by decide)
  | _ + 17 => trivial
theorem alCF_mono {j : Nat} {u : Value} {ds : List Value} {w w' : World} {B D G n c kn : Nat} {yp : Pr} {cur : Array Value} (hb : Below w.heap.size w w') (h : alCF B D G n c kn yp cur j u ds w) : alCF B D G n c kn yp cur j u ds w' := by
  match j with
  | 0 => exact h
  | 1 => exact h
  | 2 => exact h
  | 3 => exact h
  | 4 => exact h
  | 5 => exact h
  | 6 => exact h
  | 7 => exact h
  | 8 => exact h
  | 9 => obtain ⟨g, h1, h2⟩ := h; exact ⟨g, h1, by rw [hb.block g (Array.getElem?_eq_some_iff.1 h2).1]; exact h2⟩
  | 10 => exact ownC_mono h hb
  | 11 => exact h
  | 12 => exact h
  | 13 => exact Eq.trans (hb.block G (Array.getElem?_eq_some_iff.1 h).1) h
  | 14 => exact Eq.trans (hb.block G (Array.getElem?_eq_some_iff.1 h).1) h
  | 15 => exact ownC_mono h hb
  | 16 => exact fun i hi hk => ownC_mono (h i hi hk) hb
  | _ + 17 => trivial
theorem alCKeep (x : List Nat) {i : Nat} (h : ((List.range 17).all fun j => alCPure j || j == i || alCKill i j || (alCAnc j).contains i || x.contains j) = true) {w w' : World} {B D G n c kn : Nat} {yp : Pr} {cur : Array Value} : ∀ j (vs' : Nat → Value), j ≠ i → alCKill i j = false → (alCAnc j).contains i = false → (x.contains j = false) →
    asrt (alCF B D G n c kn yp cur) alCDep j vs' w → asrt (alCF B D G n c kn yp cur) alCDep j vs' w' := by
  intro j vs' h1 h2 h3 h0 h4
  by_cases hj : j < 17
  · have := List.all_eq_true.1 h j (List.mem_range.2 hj)
    rw [h2, h3, h0] at this
    simp only [Bool.or_false, Bool.or_eq_true, beq_iff_eq] at this
    rcases this with h5 | h5
    · exact alCF_pure h5 h4
    · exact absurd h5 h1
  · exact alCF_pure (by unfold alCPure; simp; omega) h4
theorem alCAnc_out {j : Nat} (h : 14 ≤ j) : alCAnc j = [] := by
  unfold alCAnc
  rw [List.getD_eq_getElem?_getD, List.getElem?_eq_none (by simpa using h)]
  rfl
theorem alCDep_out {j : Nat} (h : 14 ≤ j) : alCDep j = [] := by
  unfold alCDep
  rw [List.getD_eq_getElem?_getD, List.getElem?_eq_none (by simpa using h)]
  rfl
theorem alCDep_anc : ∀ j, ∀ d ∈ alCDep j, d ∈ alCAnc j := by
  intro j d hd
  by_cases h : j < 14
  · exact (by decide : ∀ j, j < 14 → ∀ d ∈ alCDep j, d ∈ alCAnc j) j h d hd
  · rw [alCDep_out (by omega)] at hd
    cases hd
end Go.Proofs.YtdnelpmolenkoaaDoor
