/- Appends onto rows of one's own, the source nil or not; the drawn region of callboardref14.Copy: what each operation leaves. Conditions: at most 10000 elements. -/
import Derived.Test.YtdnelpmolenkoaaDoorMAlikeA
namespace Go.Proofs.YtdnelpmolenkoaaDoor
open Go.RowKit Go.Ow Go.Inv2

/-- append of nothing -/
theorem run_app_nil {P : Program} {w : World} {base : Nat} {t ty e : TypeId} {i : TypeInfo} {size : Nat} (ht : P.underlying t = some (.slice e)) (hi : P.info? e = some i) {v : Value} {n : Nat} {xs : List Value}
    (hown : w.ownsRow base e size v n xs) (c : Nat) : (Builtin.append_ #[t, t] ty #[v, .slice none 0 c]).run P w = .ok v w := by
  rcases hown.2 with ⟨rfl, rfl⟩ | ⟨g, cap, cur, rfl, _, _, hnc, _⟩
  · simp [Builtin.append_, run_underlying ht, sizeOf, typeInfo, hi, Builtin.lenOf, Builtin.firstCells]
  · simp [Builtin.append_, run_underlying ht, sizeOf, typeInfo, hi, Builtin.lenOf, Builtin.firstCells, hnc, storeCells]
/-- a row of another type is as it was -/
theorem own_other {w W : World} {B B' C C' n n' : Nat} {e e' : TypeId} {u u' : Value} {xs xs' : List Value} (h : w.ownsRow B e C u n xs) (h2 : w.ownsRow B' e' C' u' n' xs') (hne : e' ≠ e) (hg : w.grownBy W u'.ownBlock) : W.ownsRow B e C u n xs :=
  ⟨h.1, h.2.imp id fun ⟨g, cap, cur, a1, a2, a3, a4⟩ => ⟨g, cap, cur, a1, a2, grown_block h2 hg a3 hne, a4⟩⟩
/-- what an append onto an own row leaves below it -/
theorem grown_below {w W : World} {B C n : Nat} {e : TypeId} {u : Value} {xs : List Value} (h : w.ownsRow B e C u n xs) (hB : B ≤ w.heap.size) (hg : w.grownBy W u.ownBlock) : Below B w W :=
  ⟨hg.os, hg.tape, hg.output, hg.size, fun b hb => hg.block b (by omega) (fun he => by have := (ownC_blk h b he.symm).1; omega)⟩

set_option maxRecDepth 100000 in
theorem rapp_var (w : World) (B : Nat) (v : Value) (hown : w.ownsRow B 43 4 v 0 []) (o : Option Addr) (m c : Nat) (f : Nat → Va) (h : Rc w 4 (varL f) o m) (hm : m ≤ 10000) (hbase : B ≤ w.heap.size) :
    ∃ v' w', (Builtin.append_ #[22, 22] 22 #[v, .slice o m c]).run Tryd.prog w = .ok v' w' ∧ w'.ownsRow B 43 4 v' m (rcs (varL f) 0 m) ∧ w.grownBy w' v.ownBlock := by
  cases o with
  | none =>
    have m0 : m = 0 := by
      rcases Nat.eq_zero_or_pos m with h0 | h0
      · exact h0
      · obtain ⟨b, off, e, _⟩ := h 0 h0
        cases e
    subst m0
    exact ⟨v, w, run_app_nil (i := (Tryd.prog.info? 43).get (by rfl)) Tryd.underlying22 (by rfl) hown c, hown, ⟨rfl, rfl, rfl, Nat.le_refl _, fun _ _ _ => rfl⟩⟩
  | some a =>
    have hnw : ∀ j u, (rcs (varL f) 0 m)[j]? = some u → w.cell? (a.add j) = some u := by
      intro j u hj
      rcases Nat.eq_zero_or_pos m with h0 | h0
      · subst h0; simp [rcs] at hj
      · obtain ⟨b, off, e, hb, hcc⟩ := h 0 h0
        simp only [Option.some.injEq] at e
        subst e
        exact Rc.news (varL_len f) (by decide) h j u hj
    obtain ⟨v', w', hr, ho, hgr⟩ := app_var w B v 0 [] hown a m c (rcs (varL f) 0 m) (rcs_length (varL_len f) _ _) hnw (rcs_one (varL_one f) _ _) (by omega) hbase
    rw [Nat.zero_add, List.nil_append] at ho
    exact ⟨v', w', hr, ho, hgr⟩

set_option maxRecDepth 100000 in
theorem rapp_flow (w : World) (B : Nat) (v : Value) (hown : w.ownsRow B 48 4 v 0 []) (o : Option Addr) (m c : Nat) (f : Nat → Fl) (h : Rc w 4 (flowL f) o m) (hm : m ≤ 10000) (hbase : B ≤ w.heap.size) :
    ∃ v' w', (Builtin.append_ #[28, 28] 28 #[v, .slice o m c]).run Tryd.prog w = .ok v' w' ∧ w'.ownsRow B 48 4 v' m (rcs (flowL f) 0 m) ∧ w.grownBy w' v.ownBlock := by
  cases o with
  | none =>
    have m0 : m = 0 := by
      rcases Nat.eq_zero_or_pos m with h0 | h0
      · exact h0
      · obtain ⟨b, off, e, _⟩ := h 0 h0
        cases e
    subst m0
    exact ⟨v, w, run_app_nil (i := (Tryd.prog.info? 48).get (by rfl)) Tryd.underlying28 (by rfl) hown c, hown, ⟨rfl, rfl, rfl, Nat.le_refl _, fun _ _ _ => rfl⟩⟩
  | some a =>
    have hnw : ∀ j u, (rcs (flowL f) 0 m)[j]? = some u → w.cell? (a.add j) = some u := by
      intro j u hj
      rcases Nat.eq_zero_or_pos m with h0 | h0
      · subst h0; simp [rcs] at hj
      · obtain ⟨b, off, e, hb, hcc⟩ := h 0 h0
        simp only [Option.some.injEq] at e
        subst e
        exact Rc.news (flowL_len f) (by decide) h j u hj
    obtain ⟨v', w', hr, ho, hgr⟩ := app_flow w B v 0 [] hown a m c (rcs (flowL f) 0 m) (rcs_length (flowL_len f) _ _) hnw (rcs_one (flowL_one f) _ _) (by omega) hbase
    rw [Nat.zero_add, List.nil_append] at ho
    exact ⟨v', w', hr, ho, hgr⟩

set_option maxRecDepth 100000 in
theorem rapp_str (w : World) (B : Nat) (v : Value) (hown : w.ownsRow B 9 1 v 0 []) (o : Option Addr) (m c : Nat) (f : Nat → ByteArray) (h : Rc w 1 (strL f) o m) (hm : m ≤ 10000) (hbase : B ≤ w.heap.size) :
    ∃ v' w', (Builtin.append_ #[23, 23] 23 #[v, .slice o m c]).run Tryd.prog w = .ok v' w' ∧ w'.ownsRow B 9 1 v' m (rcs (strL f) 0 m) ∧ w.grownBy w' v.ownBlock := by
  cases o with
  | none =>
    have m0 : m = 0 := by
      rcases Nat.eq_zero_or_pos m with h0 | h0
      · exact h0
      · obtain ⟨b, off, e, _⟩ := h 0 h0
        cases e
    subst m0
    exact ⟨v, w, run_app_nil (i := (Tryd.prog.info? 9).get (by rfl)) Tryd.underlying23 (by rfl) hown c, hown, ⟨rfl, rfl, rfl, Nat.le_refl _, fun _ _ _ => rfl⟩⟩
  | some a =>
    have hnw : ∀ j u, (rcs (strL f) 0 m)[j]? = some u → w.cell? (a.add j) = some u := by
      intro j u hj
      rcases Nat.eq_zero_or_pos m with h0 | h0
      · subst h0; simp [rcs] at hj
      · obtain ⟨b, off, e, hb, hcc⟩ := h 0 h0
        simp only [Option.some.injEq] at e
        subst e
        exact Rc.news (strL_len f) (by decide) h j u hj
    obtain ⟨v', w', hr, ho, hgr⟩ := app_str w B v 0 [] hown a m c (rcs (strL f) 0 m) (rcs_length (strL_len f) _ _) hnw (rcs_one (strL_one f) _ _) (by omega) hbase
    rw [Nat.zero_add, List.nil_append] at ho
    exact ⟨v', w', hr, ho, hgr⟩

/-- what each operation of the region leaves -/
def rcAF (B b : Nat) (xp : Pr) : Nat → Value → List Value → World → Prop
  | 0, u, _, _ => u = .pointer (some ⟨b, 0, none⟩)
  | 1, u, _, _ => u = .string xp.name
  | 2, u, _, w => w.ownsRow B 43 4 u 0 []
  | 3, u, _, _ => u = .pointer (some ⟨b, 1, none⟩)
  | 4, u, _, _ => u = .slice xp.vo xp.vm xp.vc
  | 5, u, _, w => w.ownsRow B 43 4 u xp.vm (rcs (varL xp.vf) 0 xp.vm)
  | 6, u, _, w => w.ownsRow B 48 4 u 0 []
  | 7, u, _, _ => u = .pointer (some ⟨b, 3, none⟩)
  | 8, u, _, _ => u = .slice xp.fo xp.fn xp.fc
  | 9, u, _, w => w.ownsRow B 48 4 u xp.fn (rcs (flowL xp.ff) 0 xp.fn)
  | 10, u, ds, _ => u = .agg #[.string xp.name, ds.getD 0 undef, .slice none 0 0, ds.getD 1 undef]
  | 11, u, _, w => ∃ g, u = .pointer (some ⟨g, 0, none⟩) ∧ B ≤ g ∧ w.heap[g]? = some (.cells #[.string ⟨#[]⟩, .slice none 0 0, .slice none 0 0, .slice none 0 0] 30 (0, 0))
  | 12, _, ds, w => ∃ g, ds.getD 0 undef = .pointer (some ⟨g, 0, none⟩) ∧ B ≤ g ∧ w.heap[g]? = some (.cells #[.string xp.name, ds.getD 1 undef, .slice none 0 0, ds.getD 2 undef] 30 (0, 0))
  | _, _, _, _ => True
def rcAAnc (i : Nat) : List Nat := ([[], [0], [], [], [3], [2, 3, 4], [], [], [7], [2, 3, 4, 5, 6, 7, 8], [0, 1, 2, 3, 4, 5, 6, 7, 8, 9], [], [0, 1, 2, 3, 4, 5, 6, 7, 8, 9, 10, 11]] : List (List Nat)).getD i []
def rcANeed (i : Nat) : List Nat := ([[], [0], [], [], [3], [2, 4], [], [], [7], [6, 8], [1, 5, 9], [], [11, 10, 5, 9]] : List (List Nat)).getD i []
def rcADep (i : Nat) : List Nat := ([[], [], [], [], [], [], [], [], [], [], [5, 9], [], [11, 5, 9]] : List (List Nat)).getD i []
def rcAKill (i j : Nat) : Bool := (i == 12 && j == 11) || (i == 5 && j == 2) || (i == 9 && j == 6)
def rcAPure (j : Nat) : Bool := !([2, 5, 6, 9, 11, 12].contains j)
theorem rcAF_pure {j : Nat} {u : Value} {ds : List Value} {w w' : World} {B b : Nat} {xp : Pr} (hp : rcAPure j = true) (h : rcAF B b xp j u ds w) : rcAF B b xp j u ds w' := by
  match j with
  | 0 => exact h
  | 1 => exact h
  | 2 => exact absurd hp (by decide)
  | 3 => exact h
  | 4 => exact h
  | 5 => exact absurd hp (by decide)
  | 6 => exact absurd hp (by decide)
  | 7 => exact h
  | 8 => exact h
  | 9 => exact absurd hp (by decide)
  | 10 => exact h
  | 11 => exact absurd hp (by decide)
  | 12 => exact absurd hp (by decide)
  | _ + 13 => trivial
theorem rcAF_mono {j : Nat} {u : Value} {ds : List Value} {w w' : World} {B b : Nat} {xp : Pr} (hb : Below w.heap.size w w') (h : rcAF B b xp j u ds w) : rcAF B b xp j u ds w' := by
  match j with
  | 0 => exact h
  | 1 => exact h
  | 2 => exact ownC_mono h hb
  | 3 => exact h
  | 4 => exact h
  | 5 => exact ownC_mono h hb
  | 6 => exact ownC_mono h hb
  | 7 => exact h
  | 8 => exact h
  | 9 => exact ownC_mono h hb
  | 10 => exact h
  | 11 => obtain ⟨g, h1, h2, h3⟩ := h; exact ⟨g, h1, h2, by rw [hb.block g (Array.getElem?_eq_some_iff.1 h3).1]; exact h3⟩
  | 12 => obtain ⟨g, h1, h2, h3⟩ := h; exact ⟨g, h1, h2, by rw [hb.block g (Array.getElem?_eq_some_iff.1 h3).1]; exact h3⟩
  | _ + 13 => trivial
theorem rcAKeep (x : List Nat) {i : Nat} (h : ((List.range 13).all fun j => rcAPure j || j == i || rcAKill i j || (rcAAnc j).contains i || x.contains j) = true) {w w' : World} {B b : Nat} {xp : Pr} : ∀ j (vs' : Nat → Value), j ≠ i → rcAKill i j = false → (rcAAnc j).contains i = false → (x.contains j = false) →
    asrt (rcAF B b xp) rcADep j vs' w → asrt (rcAF B b xp) rcADep j vs' w' := by
  intro j vs' h1 h2 h3 h0 h4
  by_cases hj : j < 13
  · have := List.all_eq_true.1 h j (List.mem_range.2 hj)
    rw [h2, h3, h0] at this
    simp only [Bool.or_false, Bool.or_eq_true, beq_iff_eq] at this
    rcases this with h5 | h5
    · exact rcAF_pure h5 h4
    · exact absurd h5 h1
  · exact rcAF_pure (by unfold rcAPure; simp; omega) h4
theorem rcAAnc_out {j : Nat} (h : 13 ≤ j) : rcAAnc j = [] := by
  unfold rcAAnc
  rw [List.getD_eq_getElem?_getD, List.getElem?_eq_none (by simpa using h)]
  rfl
theorem rcADep_out {j : Nat} (h : 13 ≤ j) : rcADep j = [] := by
  unfold rcADep
  rw [List.getD_eq_getElem?_getD, List.getElem?_eq_none (by simpa using h)]
  rfl
theorem rcADep_anc : ∀ j, ∀ d ∈ rcADep j, d ∈ rcAAnc j := by
  intro j d hd
  by_cases h : j < 13
  · exact (by decide : ∀ j, j < 13 → ∀ d ∈ rcADep j, d ∈ rcAAnc j) j h d hd
  · rw [rcADep_out (by omega)] at hd
    cases hd
end Go.Proofs.YtdnelpmolenkoaaDoor
