/- A process whose rows are its own: how it reads; one cell of a row that turns; what is kept when a block of one type turns. Conditions: none. -/
import Derived.Test.YtdnelpmolenkoaaDoorMAlike
namespace Go.Proofs.YtdnelpmolenkoaaDoor
open Go.RowKit Go.Ow

theorem Nod.own_at {B : Nat} {w : World} {z : Nod} (h : z.own B w) : z.at w ∧ z.m ≤ z.c ∧ z.n ≤ z.q := by
  obtain ⟨h1, h2⟩ := h
  obtain ⟨o, c, e, hle, hr, _⟩ := owns_rc (varL_len z.f) h1
  obtain ⟨o', c', e', hle', hr', _⟩ := owns_rc (strL_len z.g) h2
  simp only [Value.slice.injEq, true_and] at e e'
  obtain ⟨rfl, rfl⟩ := e
  obtain ⟨rfl, rfl⟩ := e'
  exact ⟨⟨hr.vr, hr'.ss⟩, hle, hle'⟩
theorem Pr.rows_at {B : Nat} {w : World} {y : Pr} (h1 : w.ownsRow B 43 4 (.slice y.vo y.vm y.vc) y.vm (rcs (varL y.vf) 0 y.vm)) (h2 : w.ownsRow B 25 11 (.slice y.no y.nn y.nc) y.nn (rcs (nodeL y.nf) 0 y.nn))
    (h3 : w.ownsRow B 48 4 (.slice y.fo y.fn y.fc) y.fn (rcs (flowL y.ff) 0 y.fn)) (h4 : ∀ k, k < y.nn → (y.nf k).own B w) : y.at w := by
  obtain ⟨o, c, e, _, hr, _⟩ := owns_rc (varL_len y.vf) h1
  obtain ⟨o2, c2, e2, _, hr2, _⟩ := owns_rc (nodeL_len y.nf) h2
  obtain ⟨o3, c3, e3, _, hr3, _⟩ := owns_rc (flowL_len y.ff) h3
  simp only [Value.slice.injEq, true_and] at e e2 e3
  obtain ⟨rfl, rfl⟩ := e
  obtain ⟨rfl, rfl⟩ := e2
  obtain ⟨rfl, rfl⟩ := e3
  exact ⟨hr.vr, hr2.nda fun k hk => (Nod.own_at (h4 k hk)).1, hr3.fla⟩
theorem Pr.own_at {B : Nat} {w : World} {y : Pr} (h : y.own B w) : y.at w := Pr.rows_at h.v h.n h.f h.z
/-- a copy that is as large as it says -/
theorem copy_fit {x y : Pr} {B : Nat} {w : World} (fx : x.fit) (hl : y.like x) (ho : y.own B w) (hr : ∀ k, y.nn ≤ k → y.nf k = x.nf k) : y.fit := by
  obtain ⟨g1, g2, g3, g4, g5, g6, g7, g8, g9, g10⟩ := fx
  obtain ⟨_, _, e1, l1⟩ := ownC_form ho.v
  obtain ⟨_, _, e2, l2⟩ := ownC_form ho.n
  obtain ⟨_, _, e3, l3⟩ := ownC_form ho.f
  simp only [Value.slice.injEq, true_and] at e1 e2 e3
  obtain ⟨rfl, rfl⟩ := e1
  obtain ⟨rfl, rfl⟩ := e2
  obtain ⟨rfl, rfl⟩ := e3
  refine ⟨by rw [hl.name]; exact g1, by rw [hl.vf]; exact g2, fun k => ?_, by rw [hl.ff]; exact g4, by rw [hl.vm]; exact g5, by rw [hl.nn]; exact g6, by rw [hl.fn]; exact g7, l1, l2, l3⟩
  by_cases hk : y.nn ≤ k
  · rw [hr k hk]; exact g3 k
  · obtain ⟨q1, q2, q3, q4, q5⟩ := hl.nf k
    obtain ⟨f1, f2, f3, f4, f5, f6, f7⟩ := g3 k
    obtain ⟨_, c1, c2⟩ := Nod.own_at (ho.z k (by omega))
    exact ⟨by rw [q1]; exact f1, by rw [q3]; exact f2, by rw [q5]; exact f3, by rw [q2]; exact f4, by rw [q4]; exact f5, c1, c2⟩
/-- a row of which one cell has turned -/
theorem row_set {w w' : World} {B C G n cap j r : Nat} {e : TypeId} {cur : Array Value} {cell cell' : Nat → List Value} {v : Value} (hC : ∀ i, (cell i).length = C) (hC' : ∀ i, (cell' i).length = C) (h : w.ownsRow B e C (.slice (some ⟨G, 0, none⟩) n cap) n (rcs cell 0 n))
    (hG : w.heap[G]? = some (.cells cur e (0, 0))) (hr : r < C) (hw : w'.heap[G]? = some (.cells (cur.setIfInBounds (j * C + r) v) e (0, 0)))
    (hc : ∀ i s, s < C → (cell' i)[s]? = if i = j ∧ s = r then some v else (cell i)[s]?) : w'.ownsRow B e C (.slice (some ⟨G, 0, none⟩) n cap) n (rcs cell' 0 n) := by
  have hp : 0 < C := by omega
  rcases h.2 with ⟨e', _⟩ | ⟨g, cap', cur', e', h1, h2, h3, h4, h5, h6⟩
  · cases e'
  · simp only [Value.slice.injEq, Option.some.injEq, Addr.mk.injEq, and_true, true_and] at e'
    obtain ⟨rfl, rfl⟩ := e'
    rw [hG] at h2
    simp at h2
    subst h2
    refine ⟨rcs_length hC' _ _, .inr ⟨G, cap, _, rfl, h1, hw, h3, h4, by simpa using h5, ?_⟩⟩
    have hsz : n * C ≤ cur.size := by rw [h5]; exact Nat.mul_le_mul_right _ h3
    apply List.ext_getElem?
    intro i
    by_cases hi : i < n * C
    · rw [List.getElem?_take, if_pos hi, Array.getElem?_toList]
      have hk : i / C < n := (Nat.div_lt_iff_lt_mul hp).2 hi
      have hm : i % C < C := Nat.mod_lt _ hp
      have hdi : i / C * C + i % C = i := Nat.div_add_mod' i C
      have e1 := rcs_at hC' n 0 (i / C) (i % C) hk hm
      have e2 := rcs_at hC n 0 (i / C) (i % C) hk hm
      have e3 := arr_at h6 hi
      rw [hdi, Nat.zero_add] at e1 e2
      rw [e1, hc _ _ hm]
      rw [e2] at e3
      rw [Array.getElem?_setIfInBounds]
      by_cases hx : i / C = j ∧ i % C = r
      · have hjr : j * C + r = i := by rw [← hx.1, ← hx.2, hdi]
        rw [if_pos hx, if_pos hjr, if_pos (by rw [hjr]; exact Nat.lt_of_lt_of_le hi hsz)]
      · rw [if_neg hx, if_neg (fun he => hx ?_), e3]
        rw [← he]
        exact ⟨by rw [Nat.add_comm, Nat.add_mul_div_right _ _ hp, Nat.div_eq_of_lt hr, Nat.zero_add], by rw [Nat.add_comm, Nat.add_mul_mod_self_right, Nat.mod_eq_of_lt hr]⟩
    · rw [List.getElem?_eq_none (by simp; omega), List.getElem?_eq_none (by rw [rcs_length hC']; omega)]

/-- all below block B, and all blocks whose types meet T, are as they were -/
structure Kp (B : Nat) (T : TypeId → Bool) (w W : World) : Prop where
  os : W.os = w.os
  tape : W.tape = w.tape
  output : W.output = w.output
  size : w.heap.size ≤ W.heap.size
  old : ∀ b, b < B → W.heap[b]? = w.heap[b]?
  kept : ∀ (b : Nat) cur e fr, w.heap[b]? = some (.cells cur e fr) → T e = true → W.heap[b]? = some (.cells cur e fr)
theorem Kp.refl (B : Nat) (T : TypeId → Bool) (w : World) : Kp B T w w := ⟨rfl, rfl, rfl, Nat.le_refl _, fun _ _ => rfl, fun _ _ _ _ h _ => h⟩
theorem Kp.trans {B : Nat} {T : TypeId → Bool} {u v w : World} (h : Kp B T u v) (k : Kp B T v w) : Kp B T u w :=
  ⟨k.os.trans h.os, k.tape.trans h.tape, k.output.trans h.output, Nat.le_trans h.size k.size, fun b hb => (k.old b hb).trans (h.old b hb), fun b cur e fr h1 h2 => k.kept b cur e fr (h.kept b cur e fr h1 h2) h2⟩
theorem Kp.of_below {B : Nat} {T : TypeId → Bool} {w W : World} (h : Below w.heap.size w W) (hB : B ≤ w.heap.size) : Kp B T w W :=
  ⟨h.os, h.tape, h.output, h.size, fun b hb => h.block b (by omega), fun b cur e fr h1 _ => by rw [h.block b (Array.getElem?_eq_some_iff.1 h1).1]; exact h1⟩
theorem Kp.of_but {B G : Nat} {T : TypeId → Bool} {w W : World} {cur : Array Value} {e : TypeId} {fr : Nat × Nat} (h : But G w W) (hB : B ≤ G) (hG : w.heap[G]? = some (.cells cur e fr)) (hT : T e = false) : Kp B T w W := by
  have hlt := (Array.getElem?_eq_some_iff.1 hG).1
  refine ⟨h.os, h.tape, h.output, h.size, fun b hb => h.block b (by omega) (by omega), fun b cur' e' fr' h1 h2 => ?_⟩
  rw [h.block b (Array.getElem?_eq_some_iff.1 h1).1 (fun he => ?_)]
  · exact h1
  · subst he
    rw [hG] at h1
    simp at h1
    rw [← h1.2.1, hT] at h2
    cases h2
theorem Kp.below {B : Nat} {T : TypeId → Bool} {w W : World} (h : Kp B T w W) : Below B w W := ⟨h.os, h.tape, h.output, h.size, h.old⟩
theorem Kp.own {B B' C : Nat} {T : TypeId → Bool} {w W : World} {e : TypeId} {n : Nat} {u : Value} {xs : List Value} (h : Kp B T w W) (ho : w.ownsRow B' e C u n xs) (hT : T e = true) : W.ownsRow B' e C u n xs :=
  ⟨ho.1, ho.2.imp id fun ⟨g, cap, cur, a1, a2, a3, a4⟩ => ⟨g, cap, cur, a1, a2, h.kept g cur e _ a3 hT, a4⟩⟩
/-- an append to a row: all blocks but the row's -/
theorem But.of_grown {w W : World} {row : Option Nat} {G : Nat} (h : w.grownBy W row) (hr : ∀ g, row = some g → g = G) : But G w W :=
  ⟨h.os, h.tape, h.output, h.size, fun k hk hb => h.block k hk (fun e => hb (hr k e.symm))⟩

def Pr.setB (y : Pr) (k : Nat) (b : Bool) : Pr := { y with nf := fun i => if i = k then { y.nf i with d := { (y.nf i).d with breaks := b } } else y.nf i }
def Pr.setE (y : Pr) (k : Nat) (b : Bool) : Pr := { y with ff := fun i => if i = k then { y.ff i with els := b } else y.ff i }
def moreT : ByteArray := ⟨#[109, 111, 114, 101]⟩
def moreG (g : Nat → ByteArray) (n i : Nat) : ByteArray := if i < n then g i else moreT
def Pr.setP (y : Pr) (k : Nat) (o : Option Addr) (q : Nat) : Pr := { y with nf := fun i => if i = k then { y.nf i with p := o, n := (y.nf i).n + 1, q := q, g := moreG (y.nf i).g (y.nf i).n } else y.nf i }
theorem own_row {w : World} {B C : Nat} {e : TypeId} {o : Option Addr} {n c : Nat} {cell : Nat → List Value} (hC : ∀ i, (cell i).length = C) (h : w.ownsRow B e C (.slice o n c) n (rcs cell 0 n)) (hn : 0 < n) :
    ∃ G cur, o = some ⟨G, 0, none⟩ ∧ B ≤ G ∧ w.heap[G]? = some (.cells cur e (0, 0)) ∧ ∀ k r, k < n → r < C → cur[k * C + r]? = (cell k)[r]? := by
  rcases h.2 with ⟨_, h0⟩ | ⟨g, cap, cur, e', h1, h2, h3, h4, h5, h6⟩
  · omega
  · simp only [Value.slice.injEq, true_and] at e'
    obtain ⟨rfl, rfl⟩ := e'
    refine ⟨g, cur, rfl, h1, h2, fun k r hk hr => ?_⟩
    have hlt : k * C + r < n * C := by
      have : (k + 1) * C ≤ n * C := Nat.mul_le_mul_right _ hk
      rw [Nat.add_mul] at this
      omega
    rw [arr_at h6 hlt, rcs_at hC n 0 k r hk hr, Nat.zero_add]
theorem Nod.own_but {B G : Nat} {w W : World} {z : Nod} {cur : Array Value} {e : TypeId} {fr : Nat × Nat} (h : z.own B w) (hG : w.heap[G]? = some (.cells cur e fr)) (h1 : 43 ≠ e) (h2 : 9 ≠ e) (hb : But G w W) : z.own B W :=
  ⟨ownC_but h.1 hG h1 hb, ownC_but h.2 hG h2 hb⟩
theorem Nod.own_mono {B : Nat} {w W : World} {z : Nod} (h : z.own B w) (hb : Below w.heap.size w W) : z.own B W := ⟨ownC_mono h.1 hb, ownC_mono h.2 hb⟩
theorem Pr.own_mono {B : Nat} {w W : World} {y : Pr} (h : y.own B w) (hb : Below w.heap.size w W) : y.own B W :=
  ⟨ownC_mono h.v hb, ownC_mono h.n hb, ownC_mono h.f hb, fun k hk => Nod.own_mono (h.z k hk) hb, h.sep⟩
/-- a box has turned: all rows are as they were -/
theorem Pr.own_box {B G : Nat} {w W : World} {y : Pr} {cur : Array Value} {fr : Nat × Nat} (h : y.own B w) (hG : w.heap[G]? = some (.cells cur 30 fr)) (hb : But G w W) : y.own B W :=
  ⟨ownC_but h.v hG (by decide) hb, ownC_but h.n hG (by decide) hb, ownC_but h.f hG (by decide) hb, fun k hk => Nod.own_but (h.z k hk) hG (by decide) (by decide) hb, h.sep⟩
theorem Pr.own_name {B : Nat} {w : World} {y : Pr} (s : ByteArray) (h : y.own B w) : ({ y with name := s } : Pr).own B w := ⟨h.v, h.n, h.f, h.z, h.sep⟩
theorem Pr.own_setB {B G k : Nat} {w W : World} {y : Pr} {cur : Array Value} {b : Bool} (h : y.own B w) (ho : y.no = some ⟨G, 0, none⟩) (hG : w.heap[G]? = some (.cells cur 25 (0, 0)))
    (hw : W.heap[G]? = some (.cells (cur.setIfInBounds (k * 11 + 8) (.bool b)) 25 (0, 0))) (hb : But G w W) : (y.setB k b).own B W := by
  have hn := h.n
  rw [ho] at hn
  refine ⟨ownC_but h.v hG (by decide) hb, ?_, ownC_but h.f hG (by decide) hb, fun i hi => ?_, fun i j hi hj hij => ?_⟩
  · show W.ownsRow B _ 11 (.slice y.no y.nn y.nc) y.nn (rcs (nodeL fun i => if i = k then { y.nf i with d := { (y.nf i).d with breaks := b } } else y.nf i) 0 y.nn)
    rw [ho]
    refine row_set (nodeL_len _) (nodeL_len _) hn hG (r := 8) (by omega) hw (fun i s hs => ?_)
    unfold nodeL
    dsimp only
    by_cases hi : i = k
    · subst hi
      rw [if_pos rfl]
      have : s = 0 ∨ s = 1 ∨ s = 2 ∨ s = 3 ∨ s = 4 ∨ s = 5 ∨ s = 6 ∨ s = 7 ∨ s = 8 ∨ s = 9 ∨ s = 10 := by omega
      rcases this with rfl | rfl | rfl | rfl | rfl | rfl | rfl | rfl | rfl | rfl | rfl <;> simp
    · rw [if_neg hi, if_neg (fun e => hi e.1)]
  · show Nod.own B W (if i = k then { y.nf i with d := { (y.nf i).d with breaks := b } } else y.nf i)
    have := Nod.own_but (h.z i hi) hG (by decide) (by decide) hb
    split
    · exact this
    · exact this
  · have h1 : ∀ i, Nod.bk (if i = k then { y.nf i with d := { (y.nf i).d with breaks := b } } else y.nf i) = (y.nf i).bk := fun i => by split <;> rfl
    show ∀ g, Nod.bk (if i = k then _ else _) = some g → Nod.bk (if j = k then _ else _) ≠ some g
    rw [h1, h1]
    exact h.sep i j hi hj hij
theorem Pr.own_setE {B G k : Nat} {w W : World} {y : Pr} {cur : Array Value} {b : Bool} (h : y.own B w) (ho : y.fo = some ⟨G, 0, none⟩) (hG : w.heap[G]? = some (.cells cur 48 (0, 0)))
    (hw : W.heap[G]? = some (.cells (cur.setIfInBounds (k * 4 + 3) (.bool b)) 48 (0, 0))) (hb : But G w W) : (y.setE k b).own B W := by
  have hn := h.f
  rw [ho] at hn
  refine ⟨ownC_but h.v hG (by decide) hb, ownC_but h.n hG (by decide) hb, ?_, fun i hi => Nod.own_but (h.z i hi) hG (by decide) (by decide) hb, h.sep⟩
  show W.ownsRow B _ 4 (.slice y.fo y.fn y.fc) y.fn (rcs (flowL fun i => if i = k then { y.ff i with els := b } else y.ff i) 0 y.fn)
  rw [ho]
  refine row_set (flowL_len _) (flowL_len _) hn hG (r := 3) (by omega) hw (fun i s hs => ?_)
  unfold flowL
  dsimp only
  by_cases hi : i = k
  · subst hi
    rw [if_pos rfl]
    have : s = 0 ∨ s = 1 ∨ s = 2 ∨ s = 3 := by omega
    rcases this with rfl | rfl | rfl | rfl <;> simp
  · rw [if_neg hi, if_neg (fun e => hi e.1)]
/-- what region 14 keeps -/
def tyP (e : TypeId) : Bool := !(e == 25 || e == 9)
def tyN (e : TypeId) : Bool := !(e == 25)
def tyF (e : TypeId) : Bool := !(e == 48)
theorem Pr.setP_at {B G k : Nat} {w W : World} {y : Pr} {cur : Array Value} {o : Option Addr} {q : Nat} (h : y.own B w) (ho : y.no = some ⟨G, 0, none⟩) (hG : w.heap[G]? = some (.cells cur 25 (0, 0))) (hK : Kp B tyP w W)
    (hw : W.heap[G]? = some (.cells (cur.setIfInBounds (k * 11 + 10) (.slice o ((y.nf k).n + 1) q)) 25 (0, 0)))
    (hr : W.ownsRow B 9 1 (.slice o ((y.nf k).n + 1) q) ((y.nf k).n + 1) (rcs (strL (moreG (y.nf k).g (y.nf k).n)) 0 ((y.nf k).n + 1)))
    (hz : ∀ i, i < y.nn → i ≠ k → W.ownsRow B 9 1 (.slice (y.nf i).p (y.nf i).n (y.nf i).q) (y.nf i).n (rcs (strL (y.nf i).g) 0 (y.nf i).n)) : (y.setP k o q).at W := by
  have hn := h.n
  rw [ho] at hn
  refine Pr.rows_at (B := B) (hK.own h.v (by decide)) ?_ (hK.own h.f (by decide)) (fun i hi => ?_)
  · show W.ownsRow B _ 11 (.slice y.no y.nn y.nc) y.nn (rcs (nodeL fun i => if i = k then { y.nf i with p := o, n := (y.nf i).n + 1, q := q, g := moreG (y.nf i).g (y.nf i).n } else y.nf i) 0 y.nn)
    rw [ho]
    refine row_set (nodeL_len _) (nodeL_len _) hn hG (r := 10) (by omega) hw (fun i s hs => ?_)
    unfold nodeL
    dsimp only
    by_cases hi : i = k
    · subst hi
      rw [if_pos rfl]
      have : s = 0 ∨ s = 1 ∨ s = 2 ∨ s = 3 ∨ s = 4 ∨ s = 5 ∨ s = 6 ∨ s = 7 ∨ s = 8 ∨ s = 9 ∨ s = 10 := by omega
      rcases this with rfl | rfl | rfl | rfl | rfl | rfl | rfl | rfl | rfl | rfl | rfl <;> simp
    · rw [if_neg hi, if_neg (fun e => hi e.1)]
  · show Nod.own B W (if i = k then { y.nf i with p := o, n := (y.nf i).n + 1, q := q, g := moreG (y.nf i).g (y.nf i).n } else y.nf i)
    have hi' : i < y.nn := hi
    have h1 := hK.own (h.z i hi').1 (by decide)
    by_cases hik : i = k
    · subst hik
      rw [if_pos rfl]
      exact ⟨h1, hr⟩
    · rw [if_neg hik]
      exact ⟨h1, hz i hi' hik⟩
theorem moreG_fit {g : Nat → ByteArray} {n : Nat} (h : ∀ k, (g k).size ≤ 9223372036854775807) (k : Nat) : (moreG g n k).size ≤ 9223372036854775807 := by
  unfold moreG
  split
  · exact h k
  · decide
theorem Pr.setP_fit {y : Pr} {k q : Nat} {o : Option Addr} (h : y.fit) (hq : (y.nf k).n + 1 ≤ q) (hn : (y.nf k).n ≤ 1000) : (y.setP k o q).fit := by
  obtain ⟨g1, g2, g3, g4, g5⟩ := h
  refine ⟨g1, g2, fun i => ?_, g4, g5⟩
  show Nod.fit (if i = k then { y.nf i with p := o, n := (y.nf i).n + 1, q := q, g := moreG (y.nf i).g (y.nf i).n } else y.nf i)
  by_cases hik : i = k
  · subst hik
    rw [if_pos rfl]
    obtain ⟨f1, f2, f3, f4, f5, f6, f7⟩ := g3 i
    exact ⟨f1, f2, moreG_fit f3, f4, (by show (y.nf i).n + 1 ≤ _; omega), f6, hq⟩
  · rw [if_neg hik]
    exact g3 i
theorem Pr.setB_fit {y : Pr} {k : Nat} {b : Bool} (h : y.fit) : (y.setB k b).fit := by
  obtain ⟨g1, g2, g3, g4, g5⟩ := h
  refine ⟨g1, g2, fun i => ?_, g4, g5⟩
  show Nod.fit (if i = k then { y.nf i with d := { (y.nf i).d with breaks := b } } else y.nf i)
  split
  · exact g3 i
  · exact g3 i
theorem Pr.setE_fit {y : Pr} {k : Nat} {b : Bool} (h : y.fit) : (y.setE k b).fit := by
  obtain ⟨g1, g2, g3, g4, g5⟩ := h
  refine ⟨g1, g2, g3, fun i => ?_, g5⟩
  show Fl.fit (if i = k then { y.ff i with els := b } else y.ff i)
  split
  · exact g4 i
  · exact g4 i
end Go.Proofs.YtdnelpmolenkoaaDoor
