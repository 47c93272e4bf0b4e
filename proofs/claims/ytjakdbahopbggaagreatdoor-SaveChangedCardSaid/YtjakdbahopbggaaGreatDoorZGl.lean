/- The package-level tables of model (reserved, events), as the rows list them: where they lie, cell by cell. Conditions: none. -/
import Derived.Test.YtjakdbahopbggaaGreatDoorZEvB
import Derived.Test.YtjakdbahopbggaaGreatDoorRows
import Derived.WalkKit
import Derived.ProofKit
import Derived.ChangeSlices
import Derived.ChangeArms
import Derived.OpenShut
import Derived.LaidMore
import Derived.Lib.Hide
namespace Go.Proofs.YtjakdbahopbggaaGreatDoor
open Go.RowKit Go.ChangeShapes

/-- which events each Kind has -/
def evRow : Nat → List Nat
  | 1 => [0, 1, 2, 3, 4, 5] | 2 => [0, 1, 4, 5, 7] | 3 => [0] | 4 => [0] | 5 => [0, 1, 5, 6] | 6 => [1, 2, 3, 6] | 7 => [0] | 8 => [0] | 9 => [0] | 10 => [0] | 11 => [0] | 12 => [0] | 13 => [0] | 14 => [0]
  | 15 => [1, 2, 3, 4, 5] | _ => []
def resRow : List ByteArray := [⟨#[121, 101, 115]⟩, ⟨#[110, 111]⟩, ⟨#[108, 101, 110]⟩]
/-- the two tables, in memory: A i: where the i-th row of events lies -/
structure Gl (A : Nat → Nat × Nat) (w : World) : Prop where
  res : ∃ (cs : Array Value) (t : TypeId), w.heap[1]? = some (.cells cs t (0, 0)) ∧ cs.size = 3 ∧ ∀ (i : Nat) (s : ByteArray), resRow[i]? = some s → cs[i]? = some (.string s)
  evs : ∃ (cs : Array Value) (t : TypeId), w.heap[2]? = some (.cells cs t (0, 0)) ∧ cs.size = 16 ∧ cs[0]? = some (.slice none 0 0) ∧ ∀ i : Nat, 1 ≤ i → i < 16 → cs[i]? = some (.slice (some ⟨(A i).1, (A i).2, none⟩) (evRow i).length (evRow i).length)
  row : ∀ i : Nat, 1 ≤ i → i < 16 → ∃ (cs : Array Value) (t : TypeId), w.heap[(A i).1]? = some (.cells cs t (0, 0)) ∧ (A i).2 + (evRow i).length ≤ cs.size ∧ ∀ (j : Nat) (x : Nat), (evRow i)[j]? = some x → cs[(A i).2 + j]? = some (.int .u8 x)

theorem Gl.below {A : Nat → Nat × Nat} {w w' : World} (h : Gl A w) (hb : Below w.heap.size w w') : Gl A w' := by
  have k : ∀ b o, w.heap[b]? = some o → w'.heap[b]? = some o := fun b o hb' => by rw [hb.block b (Array.getElem?_eq_some_iff.1 hb').1]; exact hb'
  obtain ⟨⟨c1, t1, h1, h1'⟩, ⟨c2, t2, h2, h2'⟩, h3⟩ := h
  refine ⟨⟨c1, t1, k _ _ h1, h1'⟩, ⟨c2, t2, k _ _ h2, h2'⟩, fun i hi hj => ?_⟩
  obtain ⟨cs, t, h4, h4'⟩ := h3 i hi hj
  exact ⟨cs, t, k _ _ h4, h4'⟩

-- the evaluator's memory
abbrev gN : Nat := 3
theorem globals2 : Tryz.prog.globals.size = gN := by kernel_rfl
theorem mixed : Tryz.prog.follows .mixedOrders = true := by kernel_rfl

-- from the rows' list
theorem gRes : Tryz.prog.globalNamed "callboard/model.reserved" = some 1 := by kernel_rfl
theorem gEvs : Tryz.prog.globalNamed "callboard/model.events" = some 2 := by kernel_rfl
theorem tRes : (Tryz.prog.globals[1]?).map (·.type) = some 179 := by kernel_rfl
theorem tEvs : (Tryz.prog.globals[2]?).map (·.type) = some 207 := by kernel_rfl
theorem cRes : Tryz.prog.cellsOf 9 = 1 := by kernel_rfl
theorem cEvs : Tryz.prog.cellsOf 99 = 1 := by kernel_rfl
theorem cU8 : Tryz.prog.cellsOf 5 = 1 := by kernel_rfl
abbrev laidAll : List (String × DataW Unit) := [("callboard/model.reserved", Rows.laid_callboard_model_reserved), ("callboard/model.events", Rows.laid_callboard_model_events)]

section
variable {H : Type} {enc : TypeId × Value → H} {P : Program} {w : World} {base : Nat} {spare : Nat → Bool} {held : Bool}
/-- an array of one-cell elements, element by element -/
theorem arr_cell {fuel : Nat} {t e : TypeId} {n : Nat} {cs : List Value} {ds : List (DataW H)} {ps : List MemPlace} (ht : P.underlying t = some (.array n e)) (hc : P.cellsOf e = 1) (hn : P.cellsOf t = n) (h : DataW.trod enc P w base spare held fuel t cs = some (.agg ds, ps)) :
    cs.length = n ∧ ∀ (i : Nat) (d : DataW H), ds[i]? = some d → ∃ (v : Value) (m : Nat) (p : List MemPlace), cs[i]? = some v ∧ DataW.trod enc P w base spare held m e [v] = some (d, p) ∧ ∀ x ∈ p, x ∈ ps := by
  obtain ⟨xs, m, _, hx, hl, hxl, hf⟩ := DataW.trod_array ht h
  simp only [Prod.mk.injEq, DataW.agg.injEq] at hx
  obtain ⟨rfl, rfl⟩ := hx
  refine ⟨hl.trans hn, fun i d hd => ?_⟩
  rw [List.getElem?_map, Option.map_eq_some_iff] at hd
  obtain ⟨y, hy, rfl⟩ := hd
  have hi : i < n := by rw [← hxl]; exact (List.getElem?_eq_some_iff.1 hy).1
  have h1 := hf i hi
  rw [hc, Nat.mul_one, hy] at h1
  have hj : i < cs.length := by rw [hl, hn]; exact hi
  have hone' : (cs.drop i).take 1 = [cs[i]'hj] := by
    rw [List.drop_eq_getElem_cons hj]
    rfl
  rw [hone'] at h1
  exact ⟨cs[i]'hj, m, y.2, List.getElem?_eq_getElem hj, h1, fun x hx => List.mem_flatMap.2 ⟨y, List.mem_of_getElem? hy, hx⟩⟩
end
theorem ev_data {H : Type} : ∃ l : List (DataW H), Rows.laid_callboard_model_events = .agg l ∧ l[0]? = some .nil ∧ ∀ i : Nat, 1 ≤ i → i < 16 → l[i]? = some (.slice ((evRow i).map fun (n : Nat) => .lit (.int .u8 n)) []) := by
  refine ⟨_, rfl, rfl, fun i h1 h2 => ?_⟩
  have : i = 1 ∨ i = 2 ∨ i = 3 ∨ i = 4 ∨ i = 5 ∨ i = 6 ∨ i = 7 ∨ i = 8 ∨ i = 9 ∨ i = 10 ∨ i = 11 ∨ i = 12 ∨ i = 13 ∨ i = 14 ∨ i = 15 := by omega
  rcases this with rfl | rfl | rfl | rfl | rfl | rfl | rfl | rfl | rfl | rfl | rfl | rfl | rfl | rfl | rfl <;> rfl
theorem res_data {H : Type} : ∃ l : List (DataW H), Rows.laid_callboard_model_reserved = .agg l ∧ ∀ (i : Nat) (s : ByteArray), resRow[i]? = some s → l[i]? = some (.lit (.string s.data.toList)) := by
  refine ⟨_, rfl, fun i s h => ?_⟩
  match i, h with
  | 0, h => cases h; rfl
  | 1, h => cases h; rfl
  | 2, h => cases h; rfl
theorem evRow_pos (i : Nat) (h1 : 1 ≤ i) (h2 : i < 16) : 1 ≤ (evRow i).length := by
  have : i = 1 ∨ i = 2 ∨ i = 3 ∨ i = 4 ∨ i = 5 ∨ i = 6 ∨ i = 7 ∨ i = 8 ∨ i = 9 ∨ i = 10 ∨ i = 11 ∨ i = 12 ∨ i = 13 ∨ i = 14 ∨ i = 15 := by omega
  rcases this with rfl | rfl | rfl | rfl | rfl | rfl | rfl | rfl | rfl | rfl | rfl | rfl | rfl | rfl | rfl <;> decide
theorem addr_of {w : World} {a : Addr} {v : Value} (h : w.cell? a = some v) : ∃ b off, a = ⟨b, off, none⟩ ∧ b < w.heap.size := by
  obtain ⟨b, off, spot⟩ := a
  unfold World.cell? at h
  split at h
  · rename_i heq
    cases spot with
    | none => exact ⟨b, off, rfl, (Array.getElem?_eq_some_iff.1 heq).1⟩
    | some _ => simp at h
  · cases h
theorem add_plain (b off k : Nat) : (Addr.mk b off none).add k = ⟨b, off + k, none⟩ := by
  unfold Addr.add
  split
  · rename_i h; subst h; rfl
  · rfl
theorem var_heap {w : World} {n : String} {g : Nat} {cs : Array Value} (hg : Tryz.prog.globalNamed n = some g) (h : w.var? Tryz.prog n = some cs) : ∃ t fz, w.heap[g]? = some (.cells cs t fz) := by
  simp only [World.var?, hg, Option.bind_some] at h
  split at h
  · rename_i c t fz hh
    injection h with h
    subst h
    exact ⟨_, _, hh⟩
  · cases h
theorem cells75 : Tryz.prog.cellsOf 179 = 3 := by kernel_rfl
theorem cells55 : Tryz.prog.cellsOf 207 = 16 := by kernel_rfl
theorem of_laid {W : World} (h : laidMetH Tryz.prog laidAll W) : ∃ A, Gl A W := by
  rw [MakeChecks.laidMetH_plain _ _ _ (by kernel_rfl)] at h
  obtain ⟨ps, ⟨g0, t0, cs0, f0, p0, q0, hg0, ht0, hv0, hd0, ⟨g1, t1, cs1, f1, p1, q1, hg1, ht1, hv1, hd1, hq1, e1⟩, e0⟩, hnd, hz⟩ := h
  obtain rfl := Option.some.inj (gRes.symm.trans hg0)
  obtain rfl := Option.some.inj (gEvs.symm.trans hg1)
  obtain rfl := Option.some.inj (tRes.symm.trans ht0)
  obtain rfl := Option.some.inj (tEvs.symm.trans ht1)
  obtain ⟨l0, el0, hl0⟩ := res_data (H := Unit)
  obtain ⟨l1, el1, hl1, hl1'⟩ := ev_data (H := Unit)
  rw [el0] at hd0
  rw [el1] at hd1
  obtain ⟨n0, k0⟩ := arr_cell Tryz.underlying179 cRes cells75 hd0
  obtain ⟨n1, k1⟩ := arr_cell Tryz.underlying207 cEvs cells55 hd1
  have n0' : cs0.size = 3 := by simpa using n0
  have n1' : cs1.size = 16 := by simpa using n1
  -- each row
  have rows : ∀ i, ∃ x : Nat × Nat, 1 ≤ i → i < 16 → cs1[i]? = some (.slice (some ⟨x.1, x.2, none⟩) (evRow i).length (evRow i).length) ∧ ∃ (cs : Array Value) (t : TypeId), W.heap[x.1]? = some (.cells cs t (0, 0)) ∧ x.2 + (evRow i).length ≤ cs.size ∧ ∀ (j : Nat) (y : Nat), (evRow i)[j]? = some y → cs[x.2 + j]? = some (.int .u8 y) := fun i => by
    by_cases hi : 1 ≤ i ∧ i < 16
    · obtain ⟨v, m, p, hv, htr, hp⟩ := k1 i _ (hl1' i hi.1 hi.2)
      have hv' : cs1[i]? = some v := by simpa using hv
      rcases open_ints Tryz.underlying99 Tryz.underlying5 cU8 htr with ⟨_, hx⟩ | ⟨a, len, cap, zs, hcs, _, hlc, hm, hzl, hx, hcell, _⟩
      · simp at hx
      · simp only [List.cons.injEq, and_true] at hcs
        subst hcs
        simp only [if_true] at hzl
        simp only [Prod.mk.injEq, DataW.slice.injEq, lits] at hx
        obtain ⟨⟨hx1, hx2⟩, rfl⟩ := hx
        have hdr : zs.drop len = [] := by
          have := congrArg List.length hx2
          simp at this
          rw [List.drop_eq_nil_iff]
          omega
        have hzlen : zs.length ≤ len := by rw [List.drop_eq_nil_iff] at hdr; exact hdr
        have hz2 : zs = (evRow i).map fun (n : Nat) => (n : Int) := by
          rw [List.take_of_length_le hzlen] at hx1
          have h2 : ((evRow i).map fun (n : Nat) => (n : Int)).map (fun z => (DataW.lit (Lit.int IntKind.u8 z) : DataW Unit)) = zs.map fun z => DataW.lit (Lit.int IntKind.u8 z) := by
            rw [List.map_map]; exact hx1
          have inj : Function.Injective fun z => (DataW.lit (Lit.int IntKind.u8 z) : DataW Unit) := fun a b h => by simpa using h
          exact (List.map_inj_right (fun a b h => inj h)).1 h2.symm
        have hlen : zs.length = (evRow i).length := by rw [hz2]; simp
        obtain rfl : len = (evRow i).length := by omega
        obtain rfl : cap = (evRow i).length := by omega
        have hp1 := evRow_pos i hi.1 hi.2
        have c0 := hcell 0 (by omega)
        have ha0 : a.add 0 = a := by unfold Addr.add; simp
        rw [ha0] at c0
        obtain ⟨b, off, rfl, hbl⟩ := addr_of c0
        have hin : MemPlace.cell b (off + 0) ∈ ps := by
          rw [e0, e1]
          simp only [List.mem_append]
          right; left; right
          exact hp _ (by rw [MemPlace.row]; exact List.mem_map.2 ⟨0, by simp; omega, rfl⟩)
        obtain ⟨⟨c, t, hh⟩, _⟩ := hz _ _ hin
        have hcc : ∀ j, j < zs.length → c[off + j]? = some (.int .u8 (zs.getD j 0)) := fun j hj => by
          have := hcell j hj
          rw [add_plain] at this
          simpa [World.cell?, hh] using this
        refine ⟨(b, off), fun _ _ => ⟨hv', c, t, hh, ?_, fun j y hy => ?_⟩⟩
        · have := hcc (zs.length - 1) (by omega)
          have := (Array.getElem?_eq_some_iff.1 this).1
          simp only
          omega
        · have hj : j < (evRow i).length := (List.getElem?_eq_some_iff.1 hy).1
          rw [hcc j (by omega), hz2]
          simp [hy]
    · exact ⟨(0, 0), fun h1 h2 => absurd ⟨h1, h2⟩ hi⟩
  obtain ⟨tr, fr, hr⟩ := var_heap gRes hv0
  obtain ⟨te, fe, he⟩ := var_heap gEvs hv1
  have zr : fr = (0, 0) := by
    obtain ⟨⟨c, t, hh⟩, _⟩ := hz 1 0 (by rw [e0]; simp only [List.mem_append]; left; left; rw [MemPlace.row]; exact List.mem_map.2 ⟨0, by simp; omega, rfl⟩)
    rw [hr] at hh
    simp at hh
    exact hh.2.2
  have ze : fe = (0, 0) := by
    obtain ⟨⟨c, t, hh⟩, _⟩ := hz 2 0 (by rw [e0, e1]; simp only [List.mem_append]; right; left; left; rw [MemPlace.row]; exact List.mem_map.2 ⟨0, by simp; omega, rfl⟩)
    rw [he] at hh
    simp at hh
    exact hh.2.2
  subst zr ze
  refine ⟨fun i => (rows i).choose, ⟨cs0, tr, hr, n0', fun i s hs => ?_⟩, ⟨cs1, te, he, n1', ?_, fun i h1 h2 => ((rows i).choose_spec h1 h2).1⟩, fun i h1 h2 => ((rows i).choose_spec h1 h2).2⟩
  · obtain ⟨v, m, p, hv, htr, _⟩ := k0 i _ (hl0 i s hs)
    obtain ⟨s', hs1, hs2, _⟩ := DataW.trod_string Tryz.underlying9 htr
    simp at hs1 hs2
    have : s' = s := by
      obtain ⟨⟨l⟩⟩ := s
      obtain ⟨⟨l'⟩⟩ := s'
      simp at hs2
      rw [hs2.1]
    subst this
    rw [← hs1]
    simpa using hv
  · obtain ⟨v, m, p, hv, htr, _⟩ := k1 0 _ hl1
    rcases open_ints Tryz.underlying99 Tryz.underlying5 cU8 htr with ⟨hcs, _⟩ | ⟨a, len, cap, zs, hcs, _, _, _, _, hx, _⟩
    · simp at hcs
      subst hcs
      simpa using hv
    · simp at hx
end Go.Proofs.YtjakdbahopbggaaGreatDoor
