/- The drawn region of ModelShort: variables without one of them, and with one of them again. Conditions: the tables as laid. -/
import Derived.Test.YtdnelpmolenkoaaDoorMVcs
import Derived.Test.YtdnelpmolenkoaaDoorInv
namespace Go.Proofs.YtdnelpmolenkoaaDoor
open Go.RowKit Go.Ow Go.Inv

/-- what each operation of the region leaves -/
def shF (B b off m c k : Nat) (ab : Addr) (f : Nat → Va) : Nat → Value → List Value → World → Prop
  | 0, u, _, w => ∃ g, u = .slice (some ⟨g, 0, none⟩) 0 0 ∧ B ≤ g ∧ w.heap[g]? = some (.cells #[] 43 (0, 0))
  | 1, u, _, _ => u = .slice (some ⟨b, off, none⟩) m c
  | 2, u, _, _ => u = .int .i64 k
  | 3, u, _, _ => u = .slice (some ⟨b, off, none⟩) k c
  | 4, u, _, w => w.ownsRow B 43 4 u k (vcs f 0 k)
  | 5, u, _, _ => u = .slice (some ⟨b, off, none⟩) m c
  | 6, u, _, _ => u = .int .i64 k
  | 7, u, _, _ => u = .int .i64 ((k : Int) + 1)
  | 8, u, _, _ => u = .slice (some ab) (m - (k + 1)) (c - (k + 1))
  | 9, u, _, w => w.ownsRow B 43 4 u (k + (m - (k + 1))) (vcs (lessF f k) 0 (k + (m - (k + 1))))
  | 10, u, _, _ => u = .int .i64 0
  | 11, u, _, _ => u = .bool true
  | 12, u, _, _ => u = .bool true
  | 13, u, _, w => ∃ g, u = .slice (some ⟨g, 0, none⟩) 0 0 ∧ B ≤ g ∧ w.heap[g]? = some (.cells #[] 43 (0, 0))
  | 14, u, _, _ => u = .slice (some ⟨b, off, none⟩) m c
  | 15, u, _, w => w.ownsRow B 43 4 u m (vcs f 0 m)
  | 16, u, _, _ => u = .slice (some ⟨b, off, none⟩) m c
  | 17, u, _, _ => u = .int .i64 k
  | 18, u, _, _ => u = .pointer (some ⟨b, off + k * 4, none⟩)
  | 19, u, _, _ => u = .agg #[.string (f k).nm, .int .u8 (f k).k, .int .i64 (f k).n, .string (f k).t]
  | 20, u, _, w => ∃ g, u = .slice (some ⟨g, 0, none⟩) 1 1 ∧ B ≤ g ∧ w.heap[g]? = some (.cells #[.string (f k).nm, .int .u8 (f k).k, .int .i64 (f k).n, .string (f k).t] 43 (0, 0))
  | 21, u, _, w => w.ownsRow B 43 4 u (m + 1) (vcs (moreF f m k) 0 (m + 1))
  | 22, u, _, _ => ∃ e : Nat, u = .int .i64 e ∧ e ≠ 0
  | 23, u, _, _ => u = .bool true
  | 24, u, _, _ => u = .bool true
  | 25, u, _, _ => u = .bool true
  | _, _, _, _ => True
def shAnc (i : Nat) : List Nat := ([[], [], [], [1, 2], [0, 1, 2, 3], [], [], [6], [5, 6, 7], [0, 1, 2, 3, 4, 5, 6, 7, 8], [0, 1, 2, 3, 4, 5, 6, 7, 8, 9], [0, 1, 2, 3, 4, 5, 6, 7, 8, 9, 10], [0, 1, 2, 3, 4, 5, 6, 7, 8, 9, 10, 11], [0, 1, 2, 3, 4, 5, 6, 7, 8, 9, 10, 11, 12], [0, 1, 2, 3, 4, 5, 6, 7, 8, 9, 10, 11, 12], [0, 1, 2, 3, 4, 5, 6, 7, 8, 9, 10, 11, 12, 13, 14], [0, 1, 2, 3, 4, 5, 6, 7, 8, 9, 10, 11, 12], [0, 1, 2, 3, 4, 5, 6, 7, 8, 9, 10, 11, 12], [0, 1, 2, 3, 4, 5, 6, 7, 8, 9, 10, 11, 12, 16, 17], [0, 1, 2, 3, 4, 5, 6, 7, 8, 9, 10, 11, 12, 16, 17, 18], [0, 1, 2, 3, 4, 5, 6, 7, 8, 9, 10, 11, 12, 16, 17, 18, 19], [0, 1, 2, 3, 4, 5, 6, 7, 8, 9, 10, 11, 12, 13, 14, 15, 16, 17, 18, 19, 20], [0, 1, 2, 3, 4, 5, 6, 7, 8, 9, 10, 11, 12, 13, 14, 15, 16, 17, 18, 19, 20, 21], [0, 1, 2, 3, 4, 5, 6, 7, 8, 9, 10, 11, 12, 13, 14, 15, 16, 17, 18, 19, 20, 21, 22], [0, 1, 2, 3, 4, 5, 6, 7, 8, 9, 10, 11, 12, 13, 14, 15, 16, 17, 18, 19, 20, 21, 22, 23], [0, 1, 2, 3, 4, 5, 6, 7, 8, 9, 10, 11, 12, 13, 14, 15, 16, 17, 18, 19, 20, 21, 22, 23, 24]] : List (List Nat)).getD i []
def shNeed (i : Nat) : List Nat := ([[], [], [], [1, 2], [0, 3], [], [], [6], [5, 7], [4, 8], [9], [10], [11], [12], [12], [13, 14, 12], [12], [12], [16, 17, 12], [18, 12], [19, 12], [15, 20, 12], [21, 12], [22, 12], [12, 23], [24]] : List (List Nat)).getD i []
def shKill (i j : Nat) : Bool := (i == 4 && j == 0) || (i == 9 && (j == 0 || j == 4)) || (i == 15 && (j == 0 || j == 4 || j == 9 || j == 13)) || (i == 21 && (j == 0 || j == 4 || j == 9 || j == 13 || j == 15 || j == 20))
def shPure (j : Nat) : Bool := !([0, 4, 9, 13, 15, 20, 21].contains j)
theorem own_mono {w w' : World} {B : Nat} {e : TypeId} {n : Nat} {u : Value} {xs : List Value} (h : w.ownsRow B e 4 u n xs) (hb : Below w.heap.size w w') : w'.ownsRow B e 4 u n xs :=
  ⟨h.1, h.2.imp id fun ⟨g, cap, cur, a1, a2, a3, a4⟩ => ⟨g, cap, cur, a1, a2, by rw [hb.block g (Array.getElem?_eq_some_iff.1 a3).1]; exact a3, a4⟩⟩
theorem own_ge {w : World} {B : Nat} {e : TypeId} {n : Nat} {u : Value} {xs : List Value} (h : w.ownsRow B e 4 u n xs) : ∀ g, u.ownBlock = some g → B ≤ g := by
  intro g hg
  rcases h.2 with ⟨rfl, _⟩ | ⟨g', cap, cur, rfl, hb, _⟩
  · simp [Value.ownBlock] at hg
  · simp [Value.ownBlock] at hg; omega
theorem shF_pure {j : Nat} {u : Value} {ds : List Value} {w w' : World} {B b off m c k : Nat} {ab : Addr} {f : Nat → Va} (hp : shPure j = true) (h : shF B b off m c k ab f j u ds w) : shF B b off m c k ab f j u ds w' := by
  match j with
  | 0 => exact absurd hp (by decide)
  | 1 => exact h
  | 2 => exact h
  | 3 => exact h
  | 4 => exact absurd hp (by decide)
  | 5 => exact h
  | 6 => exact h
  | 7 => exact h
  | 8 => exact h
  | 9 => exact absurd hp (by decide)
  | 10 => exact h
  | 11 => exact h
  | 12 => exact h
  | 13 => exact absurd hp (by decide)
  | 14 => exact h
  | 15 => exact absurd hp (by decide)
  | 16 => exact h
  | 17 => exact h
  | 18 => exact h
  | 19 => exact h
  | 20 => exact absurd hp (by decide)
  | 21 => exact absurd hp (by decide)
  | 22 => exact h
  | 23 => exact h
  | 24 => exact h
  | 25 => exact h
  | _ + 26 => trivial
theorem shF_mono {j : Nat} {u : Value} {ds : List Value} {w w' : World} {B b off m c k : Nat} {ab : Addr} {f : Nat → Va} (hb : Below w.heap.size w w') (h : shF B b off m c k ab f j u ds w) : shF B b off m c k ab f j u ds w' := by
  match j with
  | 0 => obtain ⟨g, h1, h2, h3⟩ := h; exact ⟨g, h1, h2, by rw [hb.block g (Array.getElem?_eq_some_iff.1 h3).1]; exact h3⟩
  | 1 => exact h
  | 2 => exact h
  | 3 => exact h
  | 4 => exact own_mono h hb
  | 5 => exact h
  | 6 => exact h
  | 7 => exact h
  | 8 => exact h
  | 9 => exact own_mono h hb
  | 10 => exact h
  | 11 => exact h
  | 12 => exact h
  | 13 => obtain ⟨g, h1, h2, h3⟩ := h; exact ⟨g, h1, h2, by rw [hb.block g (Array.getElem?_eq_some_iff.1 h3).1]; exact h3⟩
  | 14 => exact h
  | 15 => exact own_mono h hb
  | 16 => exact h
  | 17 => exact h
  | 18 => exact h
  | 19 => exact h
  | 20 => obtain ⟨g, h1, h2, h3⟩ := h; exact ⟨g, h1, h2, by rw [hb.block g (Array.getElem?_eq_some_iff.1 h3).1]; exact h3⟩
  | 21 => exact own_mono h hb
  | 22 => exact h
  | 23 => exact h
  | 24 => exact h
  | 25 => exact h
  | _ + 26 => trivial
theorem shKeep (x : Nat) {i : Nat} (h : ((List.range 26).all fun j => shPure j || j == i || shKill i j || (shAnc j).contains i || j == x) = true) {w w' : World} {B b off m c k : Nat} {ab : Addr} {f : Nat → Va} : ∀ j (vs' : Nat → Value), j ≠ i → shKill i j = false → (shAnc j).contains i = false → (j < 26 → j ≠ x) →
    asrt (shF B b off m c k ab f) (fun _ => []) j vs' w → asrt (shF B b off m c k ab f) (fun _ => []) j vs' w' := by
  intro j vs' h1 h2 h3 h0 h4
  by_cases hj : j < 26
  · have := List.all_eq_true.1 h j (List.mem_range.2 hj)
    rw [h2, h3] at this
    simp only [Bool.or_false, Bool.or_eq_true, beq_iff_eq] at this
    rcases this with (h5 | h5) | h5
    · exact shF_pure h5 h4
    · exact absurd h5 h1
    · exact absurd h5 (h0 hj)
  · exact shF_pure (by unfold shPure; simp; omega) h4
end Go.Proofs.YtdnelpmolenkoaaDoor
