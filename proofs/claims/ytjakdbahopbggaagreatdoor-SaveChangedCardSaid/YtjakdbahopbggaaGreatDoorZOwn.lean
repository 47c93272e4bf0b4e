/- A slice of single cells that the call made itself (by []byte(s), or by append), appended to one element at a time: its cells, whatever the mark behind its row. Conditions: none. -/
import Derived.WalkKit
import Derived.Deep.Onto
import Derived.Laws.IdiomStrings
namespace Go.Ow
open Go.RowKit

/-- v is a slice of the cells xs, alone in a block from base on. -/
def Owns (w : World) (base : Nat) (e : TypeId) (v : Value) (xs : List Value) : Prop :=
  ∃ (g cap : Nat) (cur : Array Value) (fr : Nat × Nat), v = .slice (some ⟨g, 0, none⟩) xs.length cap ∧ base ≤ g ∧ w.heap[g]? = some (.cells cur e fr) ∧ (∀ i, i < cur.size → ¬ (fr.1 ≤ i ∧ i < fr.2)) ∧
    xs.length ≤ cap ∧ cap ≤ maxLen ∧ cur.size = cap ∧ cur.toList.take xs.length = xs

theorem Owns.carry {w w' : World} {base : Nat} {e : TypeId} {v : Value} {xs : List Value} (h : Owns w base e v xs) (hb : ∀ k, base ≤ k → k < w.heap.size → w'.heap[k]? = w.heap[k]?) : Owns w' base e v xs := by
  obtain ⟨g, cap, cur, fr, h1, h2, h3, h4⟩ := h
  exact ⟨g, cap, cur, fr, h1, h2, by rw [hb g h2 (Array.getElem?_eq_some_iff.1 h3).1]; exact h3, h4⟩

theorem Owns.alloc {w : World} {base : Nat} {e : TypeId} {v : Value} {xs : List Value} (h : Owns w base e v xs) (o : Obj) : Owns (w.alloc o) base e v xs := h.carry fun k _ hk => Below.heap_alloc w o k hk

theorem Owns.cellAt {w : World} {base : Nat} {e : TypeId} {v : Value} {xs : List Value} (h : Owns w base e v xs) : ∃ g cap, v = .slice (some ⟨g, 0, none⟩) xs.length cap ∧ base ≤ g ∧ g < w.heap.size ∧ xs.length ≤ cap ∧ cap ≤ maxLen ∧ ∀ j u, xs[j]? = some u → w.cell? ⟨g, j, none⟩ = some u := by
  obtain ⟨g, cap, cur, fr, h1, h2, h3, h4, h5, h6, h7, h8⟩ := h
  refine ⟨g, cap, h1, h2, (Array.getElem?_eq_some_iff.1 h3).1, h5, h6, fun j u hj => ?_⟩
  rw [cell_of_row w g j cur e fr h3]
  rw [← h8, List.getElem?_take] at hj
  split at hj
  · simpa using hj
  · cases hj

theorem owns_of_string {P : Program} (w : World) (src dst e : TypeId) (s : ByteArray) (hs : P.underlying src = some .string) (hd : P.underlying dst = some (.slice e)) (he : P.underlying e = some (.int .u8)) (hm : s.size ≤ maxLen) :
    ∃ v w1, (convert src dst (.string s)).run P w = .ok v w1 ∧ Owns w1 w.heap.size e v (s.data.toList.map fun b => Value.int .u8 b.toNat) ∧ Below w.heap.size w w1 ∧ w.heap.size < w1.heap.size := by
  refine ⟨_, _, run_bytes_of_string w src dst e s hs hd he, ⟨w.heap.size, grownCap w s.size 0 e, _, _, by simp, Nat.le_refl _, heap_alloc_new w.drew _, fun i hi => by simp only; omega, by simpa using grownCap_ge w s.size 0 e, grownCap_le_maxLen w _ _ _ hm, ?_, ?_⟩, ((Below.refl _ _).drew).alloc (Nat.le_refl _) _, by simp⟩
  · have := grownCap_ge w s.size 0 e
    simp [bytesRow]
    omega
  · simp [bytesRow]

theorem run_append {P : Program} {w : World} {base : Nat} {e : TypeId} {v : Value} {xs : List Value} (h : Owns w base e v xs)
    (t ty : TypeId) (i : TypeInfo) (z : Value) (bytes : Nat) (ht : P.underlying t = some (.slice e)) (hi : P.info? e = some i) (hz : i.zero = some z) (hsize : i.size = 1) (hby : i.bytes = bytes) (hzs : z.cells.size = 1)
    (ad : Addr) (c : Nat) (x : Value) (hx : w.cell? ad = some x) (h1 : x.oneCell' = true) (hadd : ad.add 0 = ad)
    (h63 : xs.length + 1 ≤ maxLen) (hbytes : (xs.length + 1) * bytes ≤ 140737488355328) (hbase : base ≤ w.heap.size) :
    ∃ v' w', (Builtin.append_ #[t, t] ty #[v, .slice (some ad) 1 c]).run P w = .ok v' w' ∧ Owns w' base e v' (xs ++ [x]) ∧ Below base w w' := by
  have hc := h.cellAt
  obtain ⟨g, cap, cur, fr, rfl, h2, h3, h4, h5, h6, h7, h8⟩ := h
  have hgl : g < w.heap.size := (Array.getElem?_eq_some_iff.1 h3).1
  have hnews : ∀ j u, [x][j]? = some u → w.cell? (ad.add j) = some u := by
    intro j u hj
    match j with
    | 0 => rw [hadd, hx]; simpa using hj
    | j + 1 => simp at hj
  by_cases hr : xs.length + 1 ≤ cap
  · have hrun := run_append_room_cells (P := P) w t ty e i ht hi g 0 xs.length cap ad 1 c [x] (by simp [hsize]) hnews (by simpa using h1) hr
      (fun j hj => by
        obtain rfl : j = 0 := by simpa using hj
        rw [cell_of_row w g _ cur e fr h3, hsize]
        simp
        omega)
      (fun j hj => by
        obtain rfl : j = 0 := by simpa using hj
        unfold World.frozen?
        simp only [h3, hsize]
        have := h4 xs.length (by omega)
        simp
        omega)
    refine ⟨_, _, hrun, ⟨g, cap, cur.set! xs.length x, fr, by simp, h2, ?_, by simpa using h4, by simpa using hr, h6, by simpa using h7, ?_⟩, ?_⟩
    · simp [World.setCells, World.setCell, hsize, Array.getElem?_modify, h3]
    · simp only [List.length_append, List.length_cons, List.length_nil]
      apply List.ext_getElem?
      intro j
      rw [List.getElem?_take]
      simp only [Array.getElem?_toList, Array.set!_eq_setIfInBounds, Array.getElem?_setIfInBounds]
      by_cases hj : j < xs.length + 1
      · rw [if_pos hj]
        by_cases hj' : j = xs.length
        · subst hj'; simp; omega
        · rw [if_neg (by omega), List.getElem?_append_left (by omega)]
          have := congrArg (fun l => l[j]?) h8
          simp only [List.getElem?_take] at this
          rw [if_pos (by omega)] at this
          simpa using this
      · rw [if_neg hj, List.getElem?_eq_none (by simp; omega)]
    · exact (Below.refl _ _).setCell h2 _
  · obtain ⟨g', cap', e', _, _, _, _, hcell⟩ := hc
    cases e'
    obtain ⟨v', w', hrun, r1, r2⟩ := run_append_arg_grows (P := P) w t ty e i z 1 bytes ht hi hz hsize hby hzs (by decide) ⟨g, 0, none⟩ xs.length cap xs (by simp) (fun j u hj => by rw [Addr.add_lit]; simpa using hcell j u hj) ad 1 c [x] (by simp) hnews (by omega) h63 hbytes
    refine ⟨v', w', hrun, ?_, (Below.refl _ _).grown r2 hbase (by intro k hk; cases hk)⟩
    rcases r1.2 with ⟨_, h0⟩ | ⟨g1, cap1, cur1, rfl, hb1, hg1, hn1, hm1, hs1, ht1⟩
    · omega
    · exact ⟨g1, cap1, cur1, (0, 0), by simp, Nat.le_trans hbase hb1, hg1, fun i _ => by simp, by simpa using hn1, hm1, by simpa using hs1, by simpa using ht1⟩

theorem wpList_append {P : Program} (w : World) {ops : Array Oper} {rest : List Oper} {o : Oper} {a : Act} {Q : Exit → Act → World → Prop} (hgd : o.guard = none) (s x : Operand) (t : TypeId)
    (ho : o.op = .call { callee := .builtin .append, args := #[s, x], argTypes := #[t, t] })
    {base : Nat} {e : TypeId} {v : Value} {xs : List Value} (i : TypeInfo) (z : Value) (bytes : Nat) (ht : P.underlying t = some (.slice e)) (hi : P.info? e = some i) (hz : i.zero = some z) (hsize : i.size = 1) (hby : i.bytes = bytes) (hzs : z.cells.size = 1)
    (hs : a.eval s = v) (h : Owns w base e v xs)
    (ad : Addr) (c : Nat) (y : Value) (hx : a.eval x = .slice (some ad) 1 c) (hy : w.cell? ad = some y) (h1 : y.oneCell' = true) (hadd : ad.add 0 = ad)
    (h63 : xs.length + 1 ≤ maxLen) (hbytes : (xs.length + 1) * bytes ≤ 140737488355328) (hbase : base ≤ w.heap.size)
    (hK : ∀ v' w', Owns w' base e v' (xs ++ [y]) → Below base w w' → wpList P ops Q rest (a.put o.dst v') w') : wpList P ops Q (o :: rest) a w := by
  refine wpList_plain hgd fun K hK' => ?_
  obtain ⟨v', w', hrun, r1, r2⟩ := run_append (P := P) h t o.type i z bytes ht hi hz hsize hby hzs ad c y hy h1 hadd h63 hbytes hbase
  unfold Oper.wp
  simp [execOp, ho, resolve, invoke, builtin, hs, hx, hrun, Result.andThen]
  exact hK' _ _ (hK v' w' r1 r2)

/-- string(b). -/
theorem run_string {P : Program} {w : World} {base : Nat} {e : TypeId} {v : Value} (l : List UInt8) (h : Owns w base e v (l.map fun b => Value.int .u8 b.toNat)) (src dst : TypeId) (hs : P.underlying src = some (.slice e)) (he : P.underlying e = some (.int .u8)) (hd : P.underlying dst = some .string) :
    (convert src dst v).run P w = .ok (.string ⟨l.toArray⟩) w := by
  obtain ⟨g, cap, rfl, _, _, _, _, hc⟩ := h.cellAt
  rw [List.length_map]
  refine run_convert_bytes_back w src dst e ⟨g, 0, none⟩ cap l hs he hd (fun j hj => ?_)
  rw [Addr.add_lit]
  simpa using hc j _ (by simp [List.getElem?_eq_getElem hj])
end Go.Ow
