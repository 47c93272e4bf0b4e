/- What a slice among the arguments holds, element by element: its cells in memory, and how each element reads. Conditions: none. -/
import Derived.Test.YtblebjgjomamdaaDoorLaw
import Derived.Deep.Slices
namespace Go.Law
open Go.RowKit Go.WideShapes Go.ChangeShapes Go.Deep

theorem addr_at {w : World} {a : Addr} {v : Value} (h : w.cell? a = some v) : ∃ b off, a = ⟨b, off, none⟩ ∧ b < w.heap.size := by
  obtain ⟨b, off, spot⟩ := a
  unfold World.cell? at h
  split at h
  · rename_i heq
    cases spot with
    | none => exact ⟨b, off, rfl, (Array.getElem?_eq_some_iff.1 heq).1⟩
    | some _ => simp at h
  · cases h
theorem add_at (b off k : Nat) : (Addr.mk b off none).add k = ⟨b, off + k, none⟩ := by
  unfold Addr.add
  split
  · rename_i h; subst h; rfl
  · rfl

section
variable {H : Type} {enc : TypeId × Value → H} {P : Program} {w : World} {base : Nat} {spare : Nat → Bool} {held : Bool}
/-- the elements of a slice: C cells each -/
theorem slice_cells {t e : TypeId} {fuel : Nat} {o : Option Addr} {len cap C : Nat} {x : DataW H × List MemPlace} (ht : P.underlying t = some (.slice e)) (hC : P.cellsOf e = C) (hp : 0 < C)
    (h : DataW.trod enc P w base spare held fuel t [.slice o len cap] = some x) :
    len ≤ maxLen ∧ len ≤ cap ∧ ∀ k, k < len → ∃ (cs : List Value) (n : Nat) (y : DataW H × List MemPlace), cs.length = C ∧ DataW.trod enc P w base spare held n e cs = some y ∧
      ∃ b off, o = some ⟨b, off, none⟩ ∧ b < w.heap.size ∧ ∀ j, j < C → w.cell? ⟨b, off + (k * C + j), none⟩ = cs[j]? := by
  rcases open_slice ht h with ⟨hcs, _⟩ | ⟨a, len', cap', m, n, D, Pl, hcs, hb, hl, hm, hmm, hx, hi⟩
  · simp at hcs
    obtain ⟨rfl, rfl, rfl⟩ := hcs
    exact ⟨by simp, by simp, fun k hk => by omega⟩
  · simp at hcs
    obtain ⟨rfl, rfl, rfl⟩ := hcs
    have hlm : len ≤ m := by rw [hmm]; split <;> omega
    refine ⟨by omega, hl, fun k hk => ?_⟩
    rw [hC] at hi
    obtain ⟨cs0, hc0, _⟩ := hi 0 (by omega)
    obtain ⟨_, hl0, hat0⟩ := World.cells?_some hc0
    have h0 := hat0 0 hp
    rw [add_add, Nat.zero_mul] at h0
    have hz : a.add 0 = a := by unfold Addr.add; simp
    rw [hz, List.getElem?_eq_getElem (by omega)] at h0
    obtain ⟨b, off, rfl, hbl⟩ := addr_at h0
    obtain ⟨cs', hc, ht'⟩ := hi k (by omega)
    obtain ⟨_, hcl, hat⟩ := World.cells?_some hc
    refine ⟨cs', n, _, hcl, ht', b, off, rfl, hbl, fun j hj => ?_⟩
    rw [← hat j hj, add_add, add_at]
/-- the fields of a struct of one-cell fields -/
theorem struct_cell {t : TypeId} {fs : Array Field} {fuel : Nat} {cs : List Value} {x : DataW H × List MemPlace} (ht : P.underlying t = some (.struct fs)) (h : DataW.trod enc P w base spare held fuel t cs = some x)
    (j : Nat) (f : Field) (hf : fs[j]? = some f) (ho : f.offset = j) (hc : P.cellsOf f.type = 1) (hj : j < cs.length) :
    ∃ (v : Value) (n : Nat) (y : DataW H × List MemPlace), cs[j]? = some v ∧ DataW.trod enc P w base spare held n f.type [v] = some y := by
  obtain ⟨ys, n', hn', hy, hlen, hyl, hff⟩ := DataW.trod_struct ht h
  have h1 := hff j f hf
  rw [ho, hc] at h1
  have hone' : (cs.drop j).take 1 = [cs[j]'hj] := by
    rw [List.drop_eq_getElem_cons hj]
    rfl
  rw [hone'] at h1
  have hjl : j < fs.size := (Array.getElem?_eq_some_iff.1 hf).1
  have hys : ys[j]? = some (ys[j]'(by omega)) := List.getElem?_eq_getElem (by omega)
  exact ⟨cs[j]'hj, n', _, List.getElem?_eq_getElem hj, h1.trans hys⟩
end
end Go.Law
