/- A process, a node, a flow, variables among the arguments: what they hold. Conditions: none. -/
import Derived.Test.YtblebjgjomamdaaDoorMData
import Derived.Test.YtblebjgjomamdaaDoorOpen
namespace Go.Proofs.YtblebjgjomamdaaDoor
open Go.RowKit Go.Ow Go.Law Go.WideShapes Go.ChangeShapes Go.Deep

theorem cellsI64 : Tryd.prog.cellsOf 2 = 1 := by kernel_rfl
theorem cellsInt : Tryd.prog.cellsOf 3 = 1 := by kernel_rfl
theorem cellsBool : Tryd.prog.cellsOf 4 = 1 := by kernel_rfl
theorem cellsStr : Tryd.prog.cellsOf 9 = 1 := by kernel_rfl
theorem cellsVars : Tryd.prog.cellsOf 24 = 1 := by kernel_rfl
theorem cellsStrs : Tryd.prog.cellsOf 39 = 1 := by kernel_rfl
theorem cellsNodes : Tryd.prog.cellsOf 25 = 1 := by kernel_rfl
theorem cellsFlows : Tryd.prog.cellsOf 26 = 1 := by kernel_rfl
theorem cellsVar : Tryd.prog.cellsOf 49 = 4 := by kernel_rfl
theorem cellsVal : Tryd.prog.cellsOf 47 = 3 := by kernel_rfl
theorem cellsNode : Tryd.prog.cellsOf 41 = 11 := by kernel_rfl
theorem cellsFlow : Tryd.prog.cellsOf 35 = 4 := by kernel_rfl
theorem wf64 {n : Int} (h : (Lit.int .i64 n).wf = true) : -9223372036854775808 ≤ n ∧ n ≤ 9223372036854775807 := by simpa [Lit.wf, IntKind.min, IntKind.max, IntKind.signed, IntKind.bits] using h
theorem wf8 {n : Int} (h : (Lit.int .u8 n).wf = true) : ∃ k : Nat, n = k ∧ k < 256 := by
  have h' : 0 ≤ n ∧ n ≤ 255 := by simpa [Lit.wf, IntKind.min, IntKind.max, IntKind.signed, IntKind.bits] using h
  obtain ⟨a, rfl⟩ := Int.eq_ofNat_of_zero_le h'.1
  exact ⟨a, rfl, by omega⟩

section
variable {H : Type} {enc : TypeId × Value → H} {w : World} {base : Nat} {spare : Nat → Bool} {held : Bool}
/-- a field of a struct, of any number of cells -/
theorem struct_part {P : Program} {t : TypeId} {fs : Array Field} {fuel : Nat} {cs : List Value} {x : DataW H × List MemPlace} (ht : P.underlying t = some (.struct fs)) (h : DataW.trod enc P w base spare held fuel t cs = some x)
    (j : Nat) (f : Field) (hf : fs[j]? = some f) {o C : Nat} (ho : f.offset = o) (hc : P.cellsOf f.type = C) :
    ∃ (n : Nat) (y : DataW H × List MemPlace), DataW.trod enc P w base spare held n f.type ((cs.drop o).take C) = some y := by
  obtain ⟨ys, n', hn', hy, hlen, hyl, hff⟩ := DataW.trod_struct ht h
  have h1 := hff j f hf
  rw [ho, hc] at h1
  have hjl : j < fs.size := (Array.getElem?_eq_some_iff.1 hf).1
  have hys : ys[j]? = some (ys[j]'(by omega)) := List.getElem?_eq_getElem (by omega)
  exact ⟨n', _, h1.trans hys⟩
theorem str_of {fuel : Nat} {v : Value} {x : DataW H × List MemPlace} (h : DataW.trod enc Tryd.prog w base spare held fuel 9 [v] = some x) : ∃ s : ByteArray, v = .string s ∧ s.size ≤ 9223372036854775807 := by
  obtain ⟨z, hz, _, wz⟩ := DataW.trod_string Tryd.underlying9 h
  simp at hz
  exact ⟨z, hz, by unfold maxLen at wz; exact wz⟩
theorem int_of {fuel : Nat} {v : Value} {x : DataW H × List MemPlace} (h : DataW.trod enc Tryd.prog w base spare held fuel 3 [v] = some x) : ∃ s : Int, v = .int .i64 s ∧ -9223372036854775808 ≤ s ∧ s ≤ 9223372036854775807 := by
  obtain ⟨z, hz, _, wz⟩ := DataW.trod_int Tryd.underlying3 h
  simp at hz
  exact ⟨z, hz, wf64 wz⟩
theorem i64_of {fuel : Nat} {v : Value} {x : DataW H × List MemPlace} (h : DataW.trod enc Tryd.prog w base spare held fuel 2 [v] = some x) : ∃ s : Int, v = .int .i64 s ∧ -9223372036854775808 ≤ s ∧ s ≤ 9223372036854775807 := by
  obtain ⟨z, hz, _, wz⟩ := DataW.trod_int Tryd.underlying2 h
  simp at hz
  exact ⟨z, hz, wf64 wz⟩
theorem u8_of {fuel : Nat} {v : Value} {x : DataW H × List MemPlace} (h : DataW.trod enc Tryd.prog w base spare held fuel 5 [v] = some x) : ∃ s : Nat, v = .int .u8 s ∧ s < 256 := by
  obtain ⟨z, hz, _, wz⟩ := DataW.trod_int Tryd.underlying5 h
  simp at hz
  obtain ⟨k, rfl, hk⟩ := wf8 wz
  exact ⟨k, hz, hk⟩
theorem bool_of {fuel : Nat} {v : Value} {x : DataW H × List MemPlace} (h : DataW.trod enc Tryd.prog w base spare held fuel 4 [v] = some x) : ∃ s : Bool, v = .bool s := by
  obtain ⟨z, hz, _⟩ := DataW.trod_bool Tryd.underlying4 h
  simp at hz
  exact ⟨z, hz⟩
theorem slice_of {t e : TypeId} {fuel : Nat} {v : Value} {x : DataW H × List MemPlace} (ht : Tryd.prog.underlying t = some (.slice e)) (h : DataW.trod enc Tryd.prog w base spare held fuel t [v] = some x) : ∃ o n c, v = .slice o n c := by
  rcases open_slice ht h with ⟨hcs, _⟩ | ⟨a, len', cap', m, n, D, Pl, hcs, _⟩
  · simp at hcs; exact ⟨_, _, _, hcs⟩
  · simp at hcs; exact ⟨_, _, _, hcs⟩
theorem len_of {n : Nat} (h : n ≤ maxLen) : n ≤ 9223372036854775807 := by unfold maxLen at h; exact h
/-- one variable -/
theorem var_of {fuel : Nat} {cs : List Value} {x : DataW H × List MemPlace} (hl : cs.length = 4) (h : DataW.trod enc Tryd.prog w base spare held fuel 49 cs = some x) :
    ∃ v : Va, v.fit ∧ cs = [.string v.nm, .int .u8 v.k, .int .i64 v.n, .string v.t] := by
  obtain ⟨c0, c1, c2, c3, rfl⟩ : ∃ c0 c1 c2 c3, cs = [c0, c1, c2, c3] := by
    match cs, hl with
    | [c0, c1, c2, c3], _ => exact ⟨c0, c1, c2, c3, rfl⟩
  obtain ⟨n0, y0, t0⟩ := struct_part Tryd.underlying49 h 0 _ rfl rfl cellsStr
  obtain ⟨n1, y1, t1⟩ := struct_part Tryd.underlying49 h 1 _ rfl rfl cellsVal
  obtain ⟨n2, y2, t2⟩ := struct_part Tryd.underlying47 t1 0 _ rfl rfl cU8
  obtain ⟨n3, y3, t3⟩ := struct_part Tryd.underlying47 t1 1 _ rfl rfl cellsI64
  obtain ⟨n4, y4, t4⟩ := struct_part Tryd.underlying47 t1 2 _ rfl rfl cellsStr
  obtain ⟨s, rfl, hs⟩ := str_of t0
  obtain ⟨k, rfl, hk⟩ := u8_of t2
  obtain ⟨i, rfl, hi⟩ := i64_of t3
  obtain ⟨u, rfl, hu⟩ := str_of t4
  exact ⟨⟨s, k, i, u⟩, ⟨hs, hk, hi.1, hi.2, hu⟩, rfl⟩
theorem vars_of {fuel : Nat} {o : Option Addr} {len cap : Nat} {x : DataW H × List MemPlace} (h : DataW.trod enc Tryd.prog w base spare held fuel 24 [.slice o len cap] = some x) :
    len ≤ 9223372036854775807 ∧ len ≤ cap ∧ ∃ f : Nat → Va, Vr w o len f ∧ ∀ k, (f k).fit := by
  obtain ⟨h1, h0, h2⟩ := slice_cells Tryd.underlying24 cellsVar (by decide) h
  refine ⟨len_of h1, h0, ?_⟩
  have h3 : ∀ k, ∃ z : Va, z.fit ∧ (k < len → ∃ b off, o = some ⟨b, off, none⟩ ∧ b < w.heap.size ∧ w.cell? ⟨b, off + k * 4, none⟩ = some (.string z.nm) ∧ w.cell? ⟨b, off + k * 4 + 1, none⟩ = some (.int .u8 z.k) ∧ w.cell? ⟨b, off + k * 4 + 2, none⟩ = some (.int .i64 z.n) ∧ w.cell? ⟨b, off + k * 4 + 3, none⟩ = some (.string z.t)) := fun k => by
    by_cases hk : k < len
    · obtain ⟨cs, n, y, hl, hy, b, off, ho, hb, hc⟩ := h2 k hk
      obtain ⟨v, hv, rfl⟩ := var_of hl hy
      exact ⟨v, hv, fun _ => ⟨b, off, ho, hb, hc 0 (by decide), hc 1 (by decide), hc 2 (by decide), hc 3 (by decide)⟩⟩
    · exact ⟨⟨⟨#[]⟩, 0, 0, ⟨#[]⟩⟩, ⟨by decide, by decide, by decide, by decide, by decide⟩, fun h => absurd h hk⟩
  exact ⟨fun k => (h3 k).choose, fun k hk => (h3 k).choose_spec.2 hk, fun k => (h3 k).choose_spec.1⟩
theorem strs_of {fuel : Nat} {o : Option Addr} {len cap : Nat} {x : DataW H × List MemPlace} (h : DataW.trod enc Tryd.prog w base spare held fuel 39 [.slice o len cap] = some x) :
    len ≤ 9223372036854775807 ∧ len ≤ cap ∧ ∃ f : Nat → ByteArray, Ss w o len f ∧ ∀ k, (f k).size ≤ 9223372036854775807 := by
  obtain ⟨h1, h0, h2⟩ := slice_cells Tryd.underlying39 cellsStr (by decide) h
  refine ⟨len_of h1, h0, ?_⟩
  have h3 : ∀ k, ∃ z : ByteArray, z.size ≤ 9223372036854775807 ∧ (k < len → ∃ b off, o = some ⟨b, off, none⟩ ∧ b < w.heap.size ∧ w.cell? ⟨b, off + k, none⟩ = some (.string z)) := fun k => by
    by_cases hk : k < len
    · obtain ⟨cs, n, y, hl, hy, b, off, ho, hb, hc⟩ := h2 k hk
      obtain ⟨z, rfl, _, wz⟩ := DataW.trod_string Tryd.underlying9 hy
      have := hc 0 (by decide)
      simp at this
      exact ⟨z, len_of wz, fun _ => ⟨b, off, ho, hb, this⟩⟩
    · exact ⟨⟨#[]⟩, by decide, fun h => absurd h hk⟩
  exact ⟨fun k => (h3 k).choose, fun k hk => (h3 k).choose_spec.2 hk, fun k => (h3 k).choose_spec.1⟩
/-- one node -/
theorem node_of {fuel : Nat} {cs : List Value} {x : DataW H × List MemPlace} (hl : cs.length = 11) (h : DataW.trod enc Tryd.prog w base spare held fuel 41 cs = some x) :
    ∃ v : Nod, v.fit ∧ v.at w ∧ cs = v.cs.toList := by
  obtain ⟨c0, c1, c2, c3, c4, c5, c6, c7, c8, c9, c10, rfl⟩ : ∃ c0 c1 c2 c3 c4 c5 c6 c7 c8 c9 c10, cs = [c0, c1, c2, c3, c4, c5, c6, c7, c8, c9, c10] := by
    match cs, hl with
    | [c0, c1, c2, c3, c4, c5, c6, c7, c8, c9, c10], _ => exact ⟨c0, c1, c2, c3, c4, c5, c6, c7, c8, c9, c10, rfl⟩
  obtain ⟨n0, y0, t0⟩ := struct_part Tryd.underlying41 h 0 _ rfl rfl cellsStr
  obtain ⟨n1, y1, t1⟩ := struct_part Tryd.underlying41 h 1 _ rfl rfl cU8
  obtain ⟨n2, y2, t2⟩ := struct_part Tryd.underlying41 h 2 _ rfl rfl cellsInt
  obtain ⟨n3, y3, t3⟩ := struct_part Tryd.underlying41 h 3 _ rfl rfl cellsInt
  obtain ⟨n4, y4, t4⟩ := struct_part Tryd.underlying41 h 4 _ rfl rfl cU8
  obtain ⟨n5, y5, t5⟩ := struct_part Tryd.underlying41 h 5 _ rfl rfl cellsStr
  obtain ⟨n6, y6, t6⟩ := struct_part Tryd.underlying41 h 6 _ rfl rfl cellsStr
  obtain ⟨n7, y7, t7⟩ := struct_part Tryd.underlying41 h 7 _ rfl rfl cellsStr
  obtain ⟨n8, y8, t8⟩ := struct_part Tryd.underlying41 h 8 _ rfl rfl cellsBool
  obtain ⟨n9, y9, t9⟩ := struct_part Tryd.underlying41 h 9 _ rfl rfl cellsVars
  obtain ⟨n10, y10, t10⟩ := struct_part Tryd.underlying41 h 10 _ rfl rfl cellsStrs
  obtain ⟨z0, rfl, w0⟩ := str_of t0
  obtain ⟨z1, rfl, w1⟩ := u8_of t1
  obtain ⟨z2, rfl, w2⟩ := int_of t2
  obtain ⟨z3, rfl, w3⟩ := int_of t3
  obtain ⟨z4, rfl, w4⟩ := u8_of t4
  obtain ⟨z5, rfl, w5⟩ := str_of t5
  obtain ⟨z6, rfl, w6⟩ := str_of t6
  obtain ⟨z7, rfl, w7⟩ := str_of t7
  obtain ⟨z8, rfl⟩ := bool_of t8
  obtain ⟨o1, m1, q1, rfl⟩ := slice_of Tryd.underlying24 t9
  obtain ⟨o2, m2, q2, rfl⟩ := slice_of Tryd.underlying39 t10
  obtain ⟨l1, k1, f1, v1, g1⟩ := vars_of t9
  obtain ⟨l2, k2, f2, v2, g2⟩ := strs_of t10
  exact ⟨⟨⟨z0, z1, z2, z3, z4, z5, z6, z7, z8⟩, o1, m1, q1, f1, o2, m2, q2, f2⟩, ⟨⟨w0, w1, w2.1, w2.2, w3.1, w3.2, w4, w5, w6, w7⟩, g1, g2, l1, l2, k1, k2⟩, ⟨v1, v2⟩, rfl⟩
def vaZ : Va := ⟨⟨#[]⟩, 0, 0, ⟨#[]⟩⟩
theorem vaZ_fit : vaZ.fit := ⟨by decide, by decide, by decide, by decide, by decide⟩
theorem emp_le : (⟨#[]⟩ : ByteArray).size ≤ 9223372036854775807 := by decide
def nodZ : Nod := ⟨⟨⟨#[]⟩, 0, 0, 0, 0, ⟨#[]⟩, ⟨#[]⟩, ⟨#[]⟩, false⟩, none, 0, 0, fun _ => vaZ, none, 0, 0, fun _ => ⟨#[]⟩⟩
theorem nodZ_fit : nodZ.fit := ⟨⟨by decide, by decide, by decide, by decide, by decide, by decide, by decide, by decide, by decide, by decide⟩, fun _ => vaZ_fit, fun _ => emp_le, by decide, by decide, by decide, by decide⟩
theorem nodes_of {fuel : Nat} {o : Option Addr} {len cap : Nat} {x : DataW H × List MemPlace} (h : DataW.trod enc Tryd.prog w base spare held fuel 25 [.slice o len cap] = some x) :
    len ≤ 9223372036854775807 ∧ len ≤ cap ∧ ∃ f : Nat → Nod, NdA w o len f ∧ ∀ k, (f k).fit := by
  obtain ⟨h1, h0, h2⟩ := slice_cells Tryd.underlying25 cellsNode (by decide) h
  refine ⟨len_of h1, h0, ?_⟩
  have h3 : ∀ k, ∃ z : Nod, z.fit ∧ (k < len → z.at w ∧ ∃ b off, o = some ⟨b, off, none⟩ ∧ b < w.heap.size ∧ ∀ j, j < 11 → w.cell? ⟨b, off + (k * 11 + j), none⟩ = z.cs.toList[j]?) := fun k => by
    by_cases hk : k < len
    · obtain ⟨cs, n, y, hl, hy, b, off, ho, hb, hc⟩ := h2 k hk
      obtain ⟨v, hv, ha, rfl⟩ := node_of hl hy
      exact ⟨v, hv, fun _ => ⟨ha, b, off, ho, hb, hc⟩⟩
    · exact ⟨nodZ, nodZ_fit, fun h => absurd h hk⟩
  refine ⟨fun k => (h3 k).choose, fun k hk => ?_, fun k => (h3 k).choose_spec.1⟩
  obtain ⟨ha, b, off, ho, hb, hc⟩ := (h3 k).choose_spec.2 hk
  exact ⟨b, off, ho, hb, ha, hc 0 (by decide), hc 1 (by decide), hc 2 (by decide), hc 3 (by decide), hc 4 (by decide), hc 5 (by decide), hc 6 (by decide), hc 7 (by decide), hc 8 (by decide), hc 9 (by decide), hc 10 (by decide)⟩
theorem flow_of {fuel : Nat} {cs : List Value} {x : DataW H × List MemPlace} (hl : cs.length = 4) (h : DataW.trod enc Tryd.prog w base spare held fuel 35 cs = some x) :
    ∃ v : Fl, v.fit ∧ cs = (flowC v).toList := by
  obtain ⟨c0, c1, c2, c3, rfl⟩ : ∃ c0 c1 c2 c3, cs = [c0, c1, c2, c3] := by
    match cs, hl with
    | [c0, c1, c2, c3], _ => exact ⟨c0, c1, c2, c3, rfl⟩
  obtain ⟨n0, y0, t0⟩ := struct_part Tryd.underlying35 h 0 _ rfl rfl cellsInt
  obtain ⟨n1, y1, t1⟩ := struct_part Tryd.underlying35 h 1 _ rfl rfl cellsInt
  obtain ⟨n2, y2, t2⟩ := struct_part Tryd.underlying35 h 2 _ rfl rfl cellsStr
  obtain ⟨n3, y3, t3⟩ := struct_part Tryd.underlying35 h 3 _ rfl rfl cellsBool
  obtain ⟨z0, rfl, w0⟩ := int_of t0
  obtain ⟨z1, rfl, w1⟩ := int_of t1
  obtain ⟨z2, rfl, w2⟩ := str_of t2
  obtain ⟨z3, rfl⟩ := bool_of t3
  exact ⟨⟨z0, z1, z2, z3⟩, ⟨w0.1, w0.2, w1.1, w1.2, w2⟩, rfl⟩
theorem flows_of {fuel : Nat} {o : Option Addr} {len cap : Nat} {x : DataW H × List MemPlace} (h : DataW.trod enc Tryd.prog w base spare held fuel 26 [.slice o len cap] = some x) :
    len ≤ 9223372036854775807 ∧ len ≤ cap ∧ ∃ f : Nat → Fl, FlA w o len f ∧ ∀ k, (f k).fit := by
  obtain ⟨h1, h0, h2⟩ := slice_cells Tryd.underlying26 cellsFlow (by decide) h
  refine ⟨len_of h1, h0, ?_⟩
  have h3 : ∀ k, ∃ z : Fl, z.fit ∧ (k < len → ∃ b off, o = some ⟨b, off, none⟩ ∧ b < w.heap.size ∧ ∀ j, j < 4 → w.cell? ⟨b, off + (k * 4 + j), none⟩ = (flowC z).toList[j]?) := fun k => by
    by_cases hk : k < len
    · obtain ⟨cs, n, y, hl, hy, b, off, ho, hb, hc⟩ := h2 k hk
      obtain ⟨v, hv, rfl⟩ := flow_of hl hy
      exact ⟨v, hv, fun _ => ⟨b, off, ho, hb, hc⟩⟩
    · exact ⟨⟨0, 0, ⟨#[]⟩, false⟩, ⟨by decide, by decide, by decide, by decide, by decide⟩, fun h => absurd h hk⟩
  refine ⟨fun k => (h3 k).choose, fun k hk => ?_, fun k => (h3 k).choose_spec.1⟩
  obtain ⟨b, off, ho, hb, hc⟩ := (h3 k).choose_spec.2 hk
  exact ⟨b, off, ho, hb, hc 0 (by decide), hc 1 (by decide), hc 2 (by decide), hc 3 (by decide)⟩
/-- one process -/
theorem proc_of {fuel : Nat} {cs : List Value} {x : DataW H × List MemPlace} (hl : cs.length = 4) (h : DataW.trod enc Tryd.prog w base spare held fuel 28 cs = some x) :
    ∃ v : Pr, v.fit ∧ v.at w ∧ cs = v.cs.toList := by
  obtain ⟨c0, c1, c2, c3, rfl⟩ : ∃ c0 c1 c2 c3, cs = [c0, c1, c2, c3] := by
    match cs, hl with
    | [c0, c1, c2, c3], _ => exact ⟨c0, c1, c2, c3, rfl⟩
  obtain ⟨n0, y0, t0⟩ := struct_part Tryd.underlying28 h 0 _ rfl rfl cellsStr
  obtain ⟨n1, y1, t1⟩ := struct_part Tryd.underlying28 h 1 _ rfl rfl cellsVars
  obtain ⟨n2, y2, t2⟩ := struct_part Tryd.underlying28 h 2 _ rfl rfl cellsNodes
  obtain ⟨n3, y3, t3⟩ := struct_part Tryd.underlying28 h 3 _ rfl rfl cellsFlows
  obtain ⟨z0, rfl, w0⟩ := str_of t0
  obtain ⟨o1, m1, q1, rfl⟩ := slice_of Tryd.underlying24 t1
  obtain ⟨o2, m2, q2, rfl⟩ := slice_of Tryd.underlying25 t2
  obtain ⟨o3, m3, q3, rfl⟩ := slice_of Tryd.underlying26 t3
  obtain ⟨l1, k1, f1, v1, g1⟩ := vars_of t1
  obtain ⟨l2, k2, f2, v2, g2⟩ := nodes_of t2
  obtain ⟨l3, k3, f3, v3, g3⟩ := flows_of t3
  exact ⟨⟨z0, o1, m1, q1, f1, o2, m2, q2, f2, o3, m3, q3, f3⟩, ⟨w0, g1, g2, g3, l1, l2, l3, k1, k2, k3⟩, ⟨v1, v2, v3⟩, rfl⟩
end
end Go.Proofs.YtblebjgjomamdaaDoor
