/- Texts and numbers of rows of one's own turn, their slices stand; a process made of one node and one flow. Conditions: none. -/
import Derived.Test.YtdnelpmolenkoaaDoorMAlikeA
import Derived.Test.YtdnelpmolenkoaaDoorMLarge
import Derived.Test.YtdnelpmolenkoaaDoorMOpen
namespace Go.Proofs.YtdnelpmolenkoaaDoor
open Go.RowKit Go.Ow Go.Inv2

/-- the arguments are not large -/
def Pr.small (x : Pr) : Prop := x.name.size ≤ 200 ∧ x.nn ≤ 100 ∧ x.fn ≤ 200 ∧ x.vm ≤ 50 ∧ ∀ k, k < x.nn → (x.nf k).m ≤ 50 ∧ (x.nf k).n ≤ 50

/-- what lies below block B is as it was; blocks stand, and the slices in them are as they were -/
structure Tu (B : Nat) (w W : World) : Prop where
  below : Below B w W
  cells : ∀ (G : Nat) (cur : Array Value) (e : TypeId), w.heap[G]? = some (.cells cur e (0, 0)) → ∃ cur' : Array Value, W.heap[G]? = some (.cells cur' e (0, 0)) ∧ cur'.size = cur.size ∧
    ∀ (i : Nat) (o : Option Addr) (n c : Nat), cur[i]? = some (Value.slice o n c) → cur'[i]? = some (Value.slice o n c)
theorem Tu.refl (B : Nat) (w : World) : Tu B w w := ⟨Below.refl _ _, fun _ cur _ h => ⟨cur, h, rfl, fun _ _ _ _ h => h⟩⟩
theorem Tu.set {B : Nat} {w W : World} (h : Tu B w W) {G i : Nat} {cur : Array Value} {e : TypeId} {v : Value} (hB : B ≤ G) (hG : w.heap[G]? = some (.cells cur e (0, 0))) (hi : cur[i]? = some v) (hv : ∀ o n c, v ≠ Value.slice o n c) (u : Value) :
    Tu B w (W.setCell ⟨G, i, none⟩ u) := by
  refine ⟨h.below.setCell hB u, fun G' cur' e' h' => ?_⟩
  obtain ⟨cur'', h1, h2, h3⟩ := h.cells G' cur' e' h'
  by_cases hg : G' = G
  · subst hg
    rw [hG] at h'
    injection h' with h'
    injection h' with h4 h5
    subst h4 h5
    refine ⟨_, But.heap h1, by rw [Array.size_setIfInBounds]; exact h2, fun j o n c hj => ?_⟩
    by_cases hji : j = i
    · subst hji
      rw [hi] at hj
      injection hj with hj
      exact absurd hj (hv o n c)
    · rw [Array.getElem?_setIfInBounds_ne (Ne.symm hji)]
      exact h3 j o n c hj
  · refine ⟨cur'', ?_, h2, h3⟩
    rw [Below.heap_setCell _ _ _ _ hg]
    exact h1
theorem Tu.slot {B : Nat} {w W : World} (h : Tu B w W) {G i : Nat} {cur : Array Value} {e : TypeId} {v : Value} (hG : w.heap[G]? = some (.cells cur e (0, 0))) (hi : cur[i]? = some v) :
    (∃ u, W.cell? ⟨G, i, none⟩ = some u) ∧ W.frozen? ⟨G, i, none⟩ = false := by
  obtain ⟨cur', h1, h2, _⟩ := h.cells G cur e hG
  have hl : i < cur.size := (Array.getElem?_eq_some_iff.1 hi).1
  exact ⟨⟨cur'[i]'(by omega), by rw [cell_in h1]; exact Array.getElem?_eq_getElem (by omega)⟩, froz_in h1 i⟩
theorem Tu.sl {B : Nat} {w W : World} (h : Tu B w W) {G i : Nat} {cur : Array Value} {e : TypeId} {o : Option Addr} {n c : Nat} (hG : w.heap[G]? = some (.cells cur e (0, 0))) (hi : cur[i]? = some (.slice o n c)) :
    W.cell? ⟨G, i, none⟩ = some (.slice o n c) := by
  obtain ⟨cur', h1, _, h3⟩ := h.cells G cur e hG
  rw [cell_in h1]
  exact h3 _ _ _ _ hi
/-- a cell of a row of one's own that is no slice -/
theorem Tu.at {B C : Nat} {w W : World} (h : Tu B w W) {e : TypeId} {o : Option Addr} {n c : Nat} {cell : Nat → List Value} (hC : ∀ i, (cell i).length = C) (ho : w.ownsRow B e C (.slice o n c) n (rcs cell 0 n)) {k r : Nat} (hk : k < n) (hr : r < C) (hv : ∀ o' n' c', (cell k)[r]? ≠ some (.slice o' n' c')) :
    ∃ G, o = some ⟨G, 0, none⟩ ∧ (∃ u, W.cell? ⟨G, k * C + r, none⟩ = some u) ∧ W.frozen? ⟨G, k * C + r, none⟩ = false ∧ ∀ u, Tu B w (W.setCell ⟨G, k * C + r, none⟩ u) := by
  obtain ⟨G, cur, hno, hG, hcur, hcells⟩ := own_row hC ho (by omega)
  have hx : ∃ v, (cell k)[r]? = some v := ⟨_, List.getElem?_eq_getElem (by rw [hC]; exact hr)⟩
  obtain ⟨v, hx⟩ := hx
  have hc := hcells k r hk hr
  rw [hx] at hc
  exact ⟨G, hno, (h.slot hcur hc).1, (h.slot hcur hc).2, h.set hG hcur hc (fun o n c e => hv o n c (by rw [hx, e]))⟩
theorem tu_node {B : Nat} {w W : World} {y : Pr} {k : Nat} (h : Tu B w W) (ho : y.own B w) (hk : k < y.nn) : ∃ G, y.no = some ⟨G, 0, none⟩ ∧ W.cell? ⟨G, k * 11 + 9, none⟩ = some (.slice (y.nf k).o (y.nf k).m (y.nf k).c) ∧
    W.cell? ⟨G, k * 11 + 10, none⟩ = some (.slice (y.nf k).p (y.nf k).n (y.nf k).q) ∧ (∃ u, W.cell? ⟨G, k * 11, none⟩ = some u) ∧ W.frozen? ⟨G, k * 11, none⟩ = false ∧ ∀ u, Tu B w (W.setCell ⟨G, k * 11, none⟩ u) := by
  obtain ⟨G, cur, hno, hG, hcur, hcells⟩ := own_row (nodeL_len y.nf) ho.n (by omega)
  obtain ⟨G', hno', h1, h2, h3⟩ := h.at (nodeL_len y.nf) ho.n hk (show 0 < 11 by omega) (fun o n c e => by simp [nodeL] at e)
  rw [hno] at hno'
  simp only [Option.some.injEq, Addr.mk.injEq, and_true] at hno'
  subst hno'
  rw [Nat.add_zero] at h1 h2 h3
  exact ⟨G, hno, h.sl hcur (by rw [hcells k 9 hk (by omega)]; rfl), h.sl hcur (by rw [hcells k 10 hk (by omega)]; rfl), h1, h2, h3⟩
theorem tu_var {B : Nat} {w W : World} {o : Option Addr} {m c : Nat} {f : Nat → Va} {k : Nat} (h : Tu B w W) (ho : w.ownsRow B 43 4 (.slice o m c) m (rcs (varL f) 0 m)) (hk : k < m) :
    ∃ G, o = some ⟨G, 0, none⟩ ∧ (∃ u, W.cell? ⟨G, k * 4, none⟩ = some u) ∧ W.frozen? ⟨G, k * 4, none⟩ = false ∧ ∀ u, Tu B w (W.setCell ⟨G, k * 4, none⟩ u) := by
  have := h.at (varL_len f) ho hk (show 0 < 4 by omega) (fun o n c e => by simp [varL] at e)
  exact this
theorem tu_str {B : Nat} {w W : World} {o : Option Addr} {m c : Nat} {f : Nat → ByteArray} {k : Nat} (h : Tu B w W) (ho : w.ownsRow B 9 1 (.slice o m c) m (rcs (strL f) 0 m)) (hk : k < m) :
    ∃ G, o = some ⟨G, 0, none⟩ ∧ (∃ u, W.cell? ⟨G, k, none⟩ = some u) ∧ W.frozen? ⟨G, k, none⟩ = false ∧ ∀ u, Tu B w (W.setCell ⟨G, k, none⟩ u) := by
  have := h.at (strL_len f) ho hk (show 0 < 1 by omega) (fun o n c e => by simp [strL] at e)
  rw [Nat.add_zero, Nat.mul_one] at this
  exact this
theorem tu_flow {B : Nat} {w W : World} {o : Option Addr} {m c : Nat} {f : Nat → Fl} {k : Nat} (h : Tu B w W) (ho : w.ownsRow B 48 4 (.slice o m c) m (rcs (flowL f) 0 m)) (hk : k < m) :
    ∃ G, o = some ⟨G, 0, none⟩ ∧ (∃ u, W.cell? ⟨G, k * 4 + 1, none⟩ = some u) ∧ W.frozen? ⟨G, k * 4 + 1, none⟩ = false ∧ ∀ u, Tu B w (W.setCell ⟨G, k * 4 + 1, none⟩ u) := by
  have := h.at (flowL_len f) ho hk (show 1 < 4 by omega) (fun o n c e => by simp [flowL] at e)
  exact this

/-- a process of one node and one flow -/
def onePr (a b : Nat) (n : Nod) (f : Fl) : Pr := ⟨⟨#[]⟩, none, 0, 0, fun _ => vaZ, some ⟨a, 0, none⟩, 1, 1, fun _ => n, some ⟨b, 0, none⟩, 1, 1, fun _ => f⟩
theorem onePr_fit {a b : Nat} {n : Nod} {f : Fl} (hn : n.fit) (hf : f.fit) : (onePr a b n f).fit := ⟨emp_le, fun _ => vaZ_fit, fun _ => hn, fun _ => hf, (by decide : 0 ≤ 9223372036854775807), (by decide : 1 ≤ 9223372036854775807), (by decide : 1 ≤ 9223372036854775807), Nat.le_refl _, Nat.le_refl _, Nat.le_refl _⟩
theorem onePr_at {a b : Nat} {n : Nod} {f : Fl} {w : World} (h : n.at w) (ha : w.heap[a]? = some (.cells n.cs 25 (0, 0))) (hb : w.heap[b]? = some (.cells (flowC f) 48 (0, 0))) : (onePr a b n f).at w := by
  refine ⟨fun k hk => absurd hk (Nat.not_lt_zero _), fun k hk => ?_, fun k hk => ?_⟩
  · obtain rfl : k = 0 := by have : k < 1 := hk; omega
    refine ⟨a, 0, rfl, (Array.getElem?_eq_some_iff.1 ha).1, h, ?_, ?_, ?_, ?_, ?_, ?_, ?_, ?_, ?_, ?_, ?_⟩ <;> (rw [cell_in ha]; rfl)
  · obtain rfl : k = 0 := by have : k < 1 := hk; omega
    refine ⟨b, 0, rfl, (Array.getElem?_eq_some_iff.1 hb).1, ?_, ?_, ?_, ?_⟩ <;> (rw [cell_in hb]; rfl)
/-- what large says to it -/
theorem large_one (n : Nod) (f : Fl) (w : World) (h : n.at w) (hn : n.fit) (hf : f.fit) :
    Calls Tryd.prog 9 #[.agg #[.string ⟨#[]⟩, .slice none 0 0, .slice (some ⟨w.heap.size, 0, none⟩) 1 1, .slice (some ⟨w.heap.size + 1, 0, none⟩) 1 1]] ((w.alloc (.cells n.cs 25)).alloc (.cells (flowC f) 48))
      fun e w' => ∃ b : Bool, e = .returned (.bool b) ∧ Below w.heap.size w w' := by
  have hb : Below w.heap.size w ((w.alloc (.cells n.cs 25)).alloc (.cells (flowC f) 48)) := ((Below.refl _ _).alloc (Nat.le_refl _) _).alloc (by simp) _
  have h1 : ((w.alloc (.cells n.cs 25)).alloc (.cells (flowC f) 48)).heap[w.heap.size]? = some (.cells n.cs 25 (0, 0)) := by
    rw [heap_alloc_old (r := w.heap.size) _ _ (by simp)]
    exact heap_alloc_new _ _
  have h2 : ((w.alloc (.cells n.cs 25)).alloc (.cells (flowC f) 48)).heap[w.heap.size + 1]? = some (.cells (flowC f) 48 (0, 0)) := by
    have := heap_alloc_new (w.alloc (.cells n.cs 25)) (.cells (flowC f) 48)
    simpa using this
  refine (large_any (onePr w.heap.size (w.heap.size + 1) n f) _ (onePr_at (h.below hb) h1 h2) (onePr_fit hn hf)).mono ?_
  rintro e w' ⟨b, rfl, _, hb'⟩
  exact ⟨b, rfl, below_step hb hb'⟩
end Go.Proofs.YtdnelpmolenkoaaDoor
