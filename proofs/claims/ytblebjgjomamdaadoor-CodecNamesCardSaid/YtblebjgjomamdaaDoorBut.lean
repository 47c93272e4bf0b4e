/- A world in which one old block alone may have turned; a block of two cells. Conditions: none. -/
import Derived.WalkKit
import Derived.Below
import Derived.Deep.QuietTactic
import Derived.BigQuiet
namespace Go.Ow
open Go.RowKit

/-- All that was there but block b is as it was. -/
structure But (b : Nat) (w w' : World) : Prop where
  os : w'.os = w.os
  tape : w'.tape = w.tape
  output : w'.output = w.output
  size : w.heap.size ≤ w'.heap.size
  block : ∀ k, k < w.heap.size → k ≠ b → w'.heap[k]? = w.heap[k]?

theorem But.refl (b : Nat) (w : World) : But b w w := ⟨rfl, rfl, rfl, Nat.le_refl _, fun _ _ _ => rfl⟩
theorem But.trans {b : Nat} {u v w : World} (h : But b u v) (k : But b v w) : But b u w :=
  ⟨k.os.trans h.os, k.tape.trans h.tape, k.output.trans h.output, Nat.le_trans h.size k.size, fun i hi hb => (k.block i (Nat.lt_of_lt_of_le hi h.size) hb).trans (h.block i hi hb)⟩
theorem But.of_below {b : Nat} {w w' : World} (h : Below w.heap.size w w') : But b w w' := ⟨h.os, h.tape, h.output, h.size, fun k hk _ => h.block k hk⟩
theorem But.setCell (b : Nat) (w : World) (o : Nat) (u : Value) : But b w (w.setCell ⟨b, o, none⟩ u) :=
  ⟨rfl, rfl, rfl, by simp [World.setCell], fun k _ hk => Below.heap_setCell _ _ _ _ hk⟩
theorem But.drewN (b : Nat) (w : World) (n : Nat) : But b w (w.drewN n) := ⟨rfl, rfl, rfl, Nat.le_refl _, fun _ _ _ => rfl⟩
theorem But.alloc (b : Nat) (w : World) (o : Obj) : But b w (w.alloc o) := ⟨rfl, rfl, rfl, by simp, fun k hk _ => Below.heap_alloc _ _ _ hk⟩
theorem But.below {B b : Nat} {w w' : World} (h : But b w w') (hB : B ≤ b) (hs : b ≤ w.heap.size) : Below B w w' :=
  ⟨h.os, h.tape, h.output, h.size, fun k hk => h.block k (by omega) (by omega)⟩
theorem But.cell {b : Nat} {w w' : World} (h : But b w w') {k o : Nat} (hk : k < w.heap.size) (hb : k ≠ b) : w'.cell? ⟨k, o, none⟩ = w.cell? ⟨k, o, none⟩ := World.cell?_of_block (w := w) (h.block k hk hb)
theorem But.frozen {b : Nat} {w w' : World} (h : But b w w') {k o : Nat} (hk : k < w.heap.size) (hb : k ≠ b) : w'.frozen? ⟨k, o, none⟩ = w.frozen? ⟨k, o, none⟩ := World.frozen?_of_block (w := w) (h.block k hk hb)

/-- Block b: two cells of a struct of type t. -/
def Two (w : World) (b : Nat) (t : TypeId) (x y : Value) : Prop := w.heap[b]? = some (.cells #[x, y] t (0, 0))
theorem Two.lt {w : World} {b : Nat} {t : TypeId} {x y : Value} (h : Two w b t x y) : b < w.heap.size := (Array.getElem?_eq_some_iff.1 h).1
theorem Two.c0 {w : World} {b : Nat} {t : TypeId} {x y : Value} (h : Two w b t x y) : w.cell? ⟨b, 0, none⟩ = some x := by rw [cell_of_row w b 0 _ t (0, 0) h]; rfl
theorem Two.c1 {w : World} {b : Nat} {t : TypeId} {x y : Value} (h : Two w b t x y) : w.cell? ⟨b, 1, none⟩ = some y := by rw [cell_of_row w b 1 _ t (0, 0) h]; rfl
theorem Two.fz {w : World} {b : Nat} {t : TypeId} {x y : Value} (h : Two w b t x y) (o : Nat) : w.frozen? ⟨b, o, none⟩ = false := by
  have h' : w.heap[b]? = some (.cells #[x, y] t (0, 0)) := h
  unfold World.frozen?
  rw [h']
  simp
theorem Two.set0 {w : World} {b : Nat} {t : TypeId} {x y : Value} (h : Two w b t x y) (u : Value) : Two (w.setCell ⟨b, 0, none⟩ u) b t u y := by
  have h' : w.heap[b]? = some (.cells #[x, y] t (0, 0)) := h
  unfold Two
  simp [World.setCell, Array.getElem?_modify, h']
theorem Two.set1 {w : World} {b : Nat} {t : TypeId} {x y : Value} (h : Two w b t x y) (u : Value) : Two (w.setCell ⟨b, 1, none⟩ u) b t x u := by
  have h' : w.heap[b]? = some (.cells #[x, y] t (0, 0)) := h
  unfold Two
  simp [World.setCell, Array.getElem?_modify, h']
theorem Two.kept {w w' : World} {b c : Nat} {t : TypeId} {x y : Value} (h : Two w b t x y) (k : But c w w') (hb : b ≠ c) : Two w' b t x y := by
  unfold Two
  rw [k.block b h.lt hb]
  exact h
theorem Two.keptB {w w' : World} {b B : Nat} {t : TypeId} {x y : Value} (h : Two w b t x y) (k : Below B w w') (hb : b < B) : Two w' b t x y := by
  unfold Two
  rw [k.block b hb]
  exact h
theorem Two.drewN {w : World} {b : Nat} {t : TypeId} {x y : Value} (h : Two w b t x y) (n : Nat) : Two (w.drewN n) b t x y := h
end Go.Ow
