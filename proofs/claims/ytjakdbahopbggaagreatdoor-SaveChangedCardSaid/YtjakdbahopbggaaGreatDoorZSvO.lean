/- A state among the arguments: what it holds, its strings of the reach's size. Conditions: none. -/
import Derived.Test.YtjakdbahopbggaaGreatDoorZSv9
import Derived.Test.YtjakdbahopbggaaGreatDoorZK47
import Derived.SizedLaws
namespace Go.Proofs.YtjakdbahopbggaaGreatDoor
open Go.RowKit Go.Ow Go.Wi Go.Law Go.WideShapes Go.ChangeShapes Go.Deep

theorem cellsProc : Tryz.prog.cellsOf 64 = 4 := by kernel_rfl
theorem cellsItem : Tryz.prog.cellsOf 49 = 8 := by kernel_rfl
theorem cellsCell : Tryz.prog.cellsOf 53 = 5 := by kernel_rfl
theorem cellsWatch : Tryz.prog.cellsOf 55 = 7 := by kernel_rfl
theorem cellsProcs : Tryz.prog.cellsOf 22 = 1 := by kernel_rfl
theorem cellsItems : Tryz.prog.cellsOf 23 = 1 := by kernel_rfl
theorem cellsCells : Tryz.prog.cellsOf 24 = 1 := by kernel_rfl
theorem cellsWatches : Tryz.prog.cellsOf 25 = 1 := by kernel_rfl

/-- what was read weighs no more than the reach -/
def Reach {H : Type} (P : Program) (t : TypeId) (d : DataW H) : Prop := ∀ n ∈ d.weights P t, n ≤ reachBytes

section
variable {H : Type} {enc : TypeId × Value → H} {w : World} {base : Nat} {spare : Nat → Bool} {held : Bool}
theorem wt_all {P : Program} {e : TypeId} : ∀ {ds : List (DataW H)} {d : DataW H}, d ∈ ds → ∀ n ∈ d.weights P e, n ∈ DataW.weightsAll P e ds
  | [], _, h, _, _ => by cases h
  | x :: r, d, h, n, hn => by
    simp only [DataW.weightsAll, List.mem_append]
    rcases List.mem_cons.1 h with rfl | h
    · exact .inl hn
    · exact .inr (wt_all h n hn)
/-- a field of a struct, and its weight -/
theorem part_wt {P : Program} {t : TypeId} {fs : Array Field} {fuel : Nat} {cs : List Value} {x : DataW H × List MemPlace} (ht : P.underlying t = some (.struct fs)) (h : DataW.trod enc P w base spare held fuel t cs = some x) (hx : Reach P t x.1)
    (j : Nat) (f : Field) (hf : fs[j]? = some f) {o C : Nat} (ho : f.offset = o) (hc : P.cellsOf f.type = C) :
    ∃ (n : Nat) (y : DataW H × List MemPlace), DataW.trod enc P w base spare held n f.type ((cs.drop o).take C) = some y ∧ Reach P f.type y.1 := by
  obtain ⟨ys, n', hn', hy, hlen, hyl, hff⟩ := DataW.trod_struct ht h
  have h1 := hff j f hf
  rw [ho, hc] at h1
  have hjl : j < fs.size := (Array.getElem?_eq_some_iff.1 hf).1
  have hys : ys[j]? = some (ys[j]'(by omega)) := List.getElem?_eq_getElem (by omega)
  refine ⟨n', _, h1.trans hys, fun n hn => hx n ?_⟩
  rw [hy]
  simp only [DataW.weights, ht]
  refine DataW.weights_mem_each (j := j) (t := f.type) (d := (ys[j]'(by omega)).1) ?_ ?_ n hn
  · rw [List.getElem?_map, Array.getElem?_toList, hf]; rfl
  · rw [List.getElem?_map, hys]; rfl
theorem str_wt {fuel : Nat} {v : Value} {x : DataW H × List MemPlace} (h : DataW.trod enc Tryz.prog w base spare held fuel 9 [v] = some x) (hx : Reach Tryz.prog 9 x.1) : ∃ s : ByteArray, v = .string s ∧ s.size ≤ 140737488351232 := by
  obtain ⟨z, hz, rfl, wz⟩ := DataW.trod_string Tryz.underlying9 h
  simp at hz
  have := hx z.data.toList.length (by simp [DataW.weights])
  rw [Array.length_toList] at this
  exact ⟨z, hz, this⟩
/-- the elements of a slice: C cells each, and their weights -/
theorem slice_wt {P : Program} {t e : TypeId} {fuel : Nat} {o : Option Addr} {len cap C : Nat} {x : DataW H × List MemPlace} (ht : P.underlying t = some (.slice e)) (hC : P.cellsOf e = C) (hp : 0 < C)
    (h : DataW.trod enc P w base spare held fuel t [.slice o len cap] = some x) (hx : Reach P t x.1) :
    len ≤ maxLen ∧ len ≤ cap ∧ ∀ k, k < len → ∃ (cs : List Value) (n : Nat) (y : DataW H × List MemPlace), cs.length = C ∧ DataW.trod enc P w base spare held n e cs = some y ∧ Reach P e y.1 ∧
      ∃ b off, o = some ⟨b, off, none⟩ ∧ b < w.heap.size ∧ ∀ j, j < C → w.cell? ⟨b, off + (k * C + j), none⟩ = cs[j]? := by
  rcases open_slice ht h with ⟨hcs, _⟩ | ⟨a, len', cap', m, n, D, Pl, hcs, hb, hl, hm, hmm, rfl, hi⟩
  · simp at hcs
    obtain ⟨rfl, rfl, rfl⟩ := hcs
    exact ⟨by simp, by simp, fun k hk => by omega⟩
  · simp at hcs
    obtain ⟨rfl, rfl, rfl⟩ := hcs
    have hlm : len ≤ m := by rw [hmm]; split <;> omega
    refine ⟨by omega, hl, fun k hk => ?_⟩
    rw [hC] at hi
    obtain ⟨cs0, hc0, _⟩ := hi 0 (by omega)
    obtain ⟨_, hl0, hat0⟩ := World.cells?_some hc0
    have h0 := hat0 0 hp
    rw [add_add, Nat.zero_mul] at h0
    have hz : a.add 0 = a := by unfold Addr.add; simp
    rw [hz, List.getElem?_eq_getElem (by omega)] at h0
    obtain ⟨b, off, rfl, hbl⟩ := addr_at h0
    obtain ⟨cs', hc, ht'⟩ := hi k (by omega)
    obtain ⟨_, hcl, hat⟩ := World.cells?_some hc
    refine ⟨cs', n, _, hcl, ht', fun q hq => hx q ?_, b, off, rfl, hbl, fun j hj => ?_⟩
    · simp only [DataW.weights, ht, List.mem_cons, List.mem_append]
      exact .inr (.inl (wt_all (List.mem_map.2 ⟨k, List.mem_range.2 hk, rfl⟩) q hq))
    · rw [← hat j hj, add_add, add_at]
/-- one item -/
theorem item_of {fuel : Nat} {cs : List Value} {x : DataW H × List MemPlace} (hl : cs.length = 8) (h : DataW.trod enc Tryz.prog w base spare held fuel 49 cs = some x) (hx : Reach Tryz.prog 49 x.1) :
    ∃ v : It, (v.fitS ∧ v.fit) ∧ cs = (itC v).toList := by
  obtain ⟨c0, c1, c2, c3, c4, c5, c6, c7, rfl⟩ : ∃ c0 c1 c2 c3 c4 c5 c6 c7, cs = [c0, c1, c2, c3, c4, c5, c6, c7] := by
    match cs, hl with
    | [c0, c1, c2, c3, c4, c5, c6, c7], _ => exact ⟨c0, c1, c2, c3, c4, c5, c6, c7, rfl⟩
  obtain ⟨n0, y0, t0⟩ := struct_part Tryz.underlying49 h 0 _ rfl rfl cellsInt
  obtain ⟨n1, y1, t1⟩ := struct_part Tryz.underlying49 h 1 _ rfl rfl cellsInt
  obtain ⟨n2, y2, t2⟩ := struct_part Tryz.underlying49 h 2 _ rfl rfl cU8
  obtain ⟨n3, y3, t3, p3⟩ := part_wt Tryz.underlying49 h hx 3 _ rfl rfl cellsStr
  obtain ⟨n4, y4, t4⟩ := struct_part Tryz.underlying49 h 4 _ rfl rfl cellsInt
  obtain ⟨n5, y5, t5⟩ := struct_part Tryz.underlying49 h 5 _ rfl rfl cellsInt
  obtain ⟨n6, y6, t6⟩ := struct_part Tryz.underlying49 h 6 _ rfl rfl cU8
  obtain ⟨n7, y7, t7, p7⟩ := part_wt Tryz.underlying49 h hx 7 _ rfl rfl cellsStr
  obtain ⟨z0, rfl, w0⟩ := int_of t0
  obtain ⟨z1, rfl, w1⟩ := int_of t1
  obtain ⟨z2, rfl, w2⟩ := u8_of t2
  obtain ⟨z3, rfl, w3⟩ := str_wt t3 p3
  obtain ⟨z4, rfl, w4⟩ := int_of t4
  obtain ⟨z5, rfl, w5⟩ := int_of t5
  obtain ⟨z6, rfl, w6⟩ := u8_of t6
  obtain ⟨z7, rfl, w7⟩ := str_wt t7 p7
  exact ⟨⟨z0, z1, z2, z3, z4, z5, z6, z7⟩, ⟨⟨w3, w7, w2, w6⟩, w4.1, w4.2, w5.1, w5.2⟩, rfl⟩
/-- one cell -/
theorem cell_of {fuel : Nat} {cs : List Value} {x : DataW H × List MemPlace} (hl : cs.length = 5) (h : DataW.trod enc Tryz.prog w base spare held fuel 53 cs = some x) (hx : Reach Tryz.prog 53 x.1) :
    ∃ v : Cl, v.fitS ∧ cs = (clC v).toList := by
  obtain ⟨c0, c1, c2, c3, c4, rfl⟩ : ∃ c0 c1 c2 c3 c4, cs = [c0, c1, c2, c3, c4] := by
    match cs, hl with
    | [c0, c1, c2, c3, c4], _ => exact ⟨c0, c1, c2, c3, c4, rfl⟩
  obtain ⟨n0, y0, t0⟩ := struct_part Tryz.underlying53 h 0 _ rfl rfl cellsInt
  obtain ⟨n1, y1, t1, p1⟩ := part_wt Tryz.underlying53 h hx 1 _ rfl rfl cellsStr
  obtain ⟨n5, y5, t5, p5⟩ := part_wt Tryz.underlying53 h hx 2 _ rfl rfl cellsVal
  obtain ⟨n2, y2, t2⟩ := struct_part Tryz.underlying51 t5 0 _ rfl rfl cU8
  obtain ⟨n3, y3, t3⟩ := struct_part Tryz.underlying51 t5 1 _ rfl rfl cellsI64
  obtain ⟨n4, y4, t4, p4⟩ := part_wt Tryz.underlying51 t5 p5 2 _ rfl rfl cellsStr
  obtain ⟨z0, rfl, w0⟩ := int_of t0
  obtain ⟨z1, rfl, w1⟩ := str_wt t1 p1
  obtain ⟨z2, rfl, w2⟩ := u8_of t2
  obtain ⟨z3, rfl, w3⟩ := i64_of t3
  obtain ⟨z4, rfl, w4⟩ := str_wt t4 p4
  exact ⟨⟨z0, z1, z2, z3, z4⟩, ⟨w2, w3.1, w3.2, w4, w1⟩, rfl⟩
/-- one watch -/
theorem watch_of {fuel : Nat} {cs : List Value} {x : DataW H × List MemPlace} (hl : cs.length = 7) (h : DataW.trod enc Tryz.prog w base spare held fuel 55 cs = some x) (hx : Reach Tryz.prog 55 x.1) :
    ∃ v : Wa, (v.fitS ∧ v.fit) ∧ cs = (waC v).toList := by
  obtain ⟨c0, c1, c2, c3, c4, c5, c6, rfl⟩ : ∃ c0 c1 c2 c3 c4 c5 c6, cs = [c0, c1, c2, c3, c4, c5, c6] := by
    match cs, hl with
    | [c0, c1, c2, c3, c4, c5, c6], _ => exact ⟨c0, c1, c2, c3, c4, c5, c6, rfl⟩
  obtain ⟨n0, y0, t0⟩ := struct_part Tryz.underlying55 h 0 _ rfl rfl cellsInt
  obtain ⟨n1, y1, t1⟩ := struct_part Tryz.underlying55 h 1 _ rfl rfl cellsInt
  obtain ⟨n2, y2, t2⟩ := struct_part Tryz.underlying55 h 2 _ rfl rfl cellsInt
  obtain ⟨n3, y3, t3⟩ := struct_part Tryz.underlying55 h 3 _ rfl rfl cU8
  obtain ⟨n4, y4, t4, p4⟩ := part_wt Tryz.underlying55 h hx 4 _ rfl rfl cellsStr
  obtain ⟨n5, y5, t5⟩ := struct_part Tryz.underlying55 h 5 _ rfl rfl cellsInt
  obtain ⟨n6, y6, t6⟩ := struct_part Tryz.underlying55 h 6 _ rfl rfl cellsBool
  obtain ⟨z0, rfl, w0⟩ := int_of t0
  obtain ⟨z1, rfl, w1⟩ := int_of t1
  obtain ⟨z2, rfl, w2⟩ := int_of t2
  obtain ⟨z3, rfl, w3⟩ := u8_of t3
  obtain ⟨z4, rfl, w4⟩ := str_wt t4 p4
  obtain ⟨z5, rfl, w5⟩ := int_of t5
  obtain ⟨z6, rfl⟩ := bool_of t6
  exact ⟨⟨z0, z1, z2, z3, z4, z5, z6⟩, ⟨⟨w4, w3⟩, w2.1, w2.2⟩, rfl⟩
/-- a row of structs -/
theorem row_of {α : Type} {t e : TypeId} {C : Nat} (S : α → Array Value) (F : α → Prop) (z0 : α) (hz : F z0) (hS : ∀ a, (S a).size = C) (ht : Tryz.prog.underlying t = some (.slice e)) (hC : Tryz.prog.cellsOf e = C) (hp : 0 < C)
    (one : ∀ (fuel : Nat) (cs : List Value) (y : DataW H × List MemPlace), cs.length = C → DataW.trod enc Tryz.prog w base spare held fuel e cs = some y → Reach Tryz.prog e y.1 → ∃ v : α, F v ∧ cs = (S v).toList)
    {fuel : Nat} {o : Option Addr} {len cap : Nat} {x : DataW H × List MemPlace} (h : DataW.trod enc Tryz.prog w base spare held fuel t [.slice o len cap] = some x) (hx : Reach Tryz.prog t x.1) :
    ∃ f : Nat → α, RowA S C w o len f ∧ ∀ k, F (f k) := by
  obtain ⟨h1, h0, h2⟩ := slice_wt ht hC hp h hx
  have h3 : ∀ k, ∃ z : α, F z ∧ (k < len → ∃ b off, o = some ⟨b, off, none⟩ ∧ b < w.heap.size ∧ ∀ r u, (S z)[r]? = some u → w.cell? ⟨b, off + k * C + r, none⟩ = some u) := fun k => by
    by_cases hk : k < len
    · obtain ⟨cs, n, y, hl, hy, py, b, off, ho, hb, hc⟩ := h2 k hk
      obtain ⟨v, hv, rfl⟩ := one n cs y hl hy py
      refine ⟨v, hv, fun _ => ⟨b, off, ho, hb, fun r u hr => ?_⟩⟩
      have hrl := (Array.getElem?_eq_some_iff.1 hr).1
      rw [Nat.add_assoc, hc r (by rw [← hS v]; exact hrl), Array.getElem?_toList, hr]
    · exact ⟨z0, hz, fun h => absurd h hk⟩
  exact ⟨fun k => (h3 k).choose, fun k hk => (h3 k).choose_spec.2 hk, fun k => (h3 k).choose_spec.1⟩
def prZ : Pr := ⟨⟨#[]⟩, none, 0, 0, fun _ => vaZ, none, 0, 0, fun _ => nodZ, none, 0, 0, fun _ => ⟨0, 0, ⟨#[]⟩, false⟩⟩
theorem flZ_fit : (⟨0, 0, ⟨#[]⟩, false⟩ : Fl).fit := ⟨by decide, by decide, by decide, by decide, by decide⟩
theorem prZ_fit : prZ.fit := ⟨emp_le, fun _ => vaZ_fit, fun _ => nodZ_fit, fun _ => flZ_fit, by decide, by decide, by decide, by decide, by decide, by decide⟩
theorem prZ_at (w : World) : prZ.at w := ⟨fun _ hk => absurd hk (Nat.not_lt_zero _), fun _ hk => absurd hk (Nat.not_lt_zero _), fun _ hk => absurd hk (Nat.not_lt_zero _)⟩
/-- one state -/
theorem state_of {fuel : Nat} {cs : List Value} {x : DataW H × List MemPlace} (hl : cs.length = 6) (h : DataW.trod enc Tryz.prog w base spare held fuel 27 cs = some x) (hx : Reach Tryz.prog 27 x.1) :
    ∃ v : Sm, v.fit ∧ v.st.fit ∧ v.at w ∧ cs = v.cs.toList := by
  obtain ⟨c0, c1, c2, c3, c4, c5, rfl⟩ : ∃ c0 c1 c2 c3 c4 c5, cs = [c0, c1, c2, c3, c4, c5] := by
    match cs, hl with
    | [c0, c1, c2, c3, c4, c5], _ => exact ⟨c0, c1, c2, c3, c4, c5, rfl⟩
  obtain ⟨n0, y0, t0⟩ := struct_part Tryz.underlying27 h 0 _ rfl rfl cellsInt
  obtain ⟨n1, y1, t1⟩ := struct_part Tryz.underlying27 h 1 _ rfl rfl cellsInt
  obtain ⟨n2, y2, t2, p2⟩ := part_wt Tryz.underlying27 h hx 2 _ rfl rfl cellsProcs
  obtain ⟨n3, y3, t3, p3⟩ := part_wt Tryz.underlying27 h hx 3 _ rfl rfl cellsItems
  obtain ⟨n4, y4, t4, p4⟩ := part_wt Tryz.underlying27 h hx 4 _ rfl rfl cellsCells
  obtain ⟨n5, y5, t5, p5⟩ := part_wt Tryz.underlying27 h hx 5 _ rfl rfl cellsWatches
  obtain ⟨z0, rfl, w0⟩ := int_of t0
  obtain ⟨z1, rfl, w1⟩ := int_of t1
  obtain ⟨o2, m2, q2, rfl⟩ := slice_of Tryz.underlying22 t2
  obtain ⟨o3, m3, q3, rfl⟩ := slice_of Tryz.underlying23 t3
  obtain ⟨o4, m4, q4, rfl⟩ := slice_of Tryz.underlying24 t4
  obtain ⟨o5, m5, q5, rfl⟩ := slice_of Tryz.underlying25 t5
  obtain ⟨f2, r2, g2⟩ := row_of (fun x : Pr => x.cs) (fun v => v.fit ∧ v.at w) prZ ⟨prZ_fit, prZ_at w⟩ (fun _ => rfl) Tryz.underlying22 cellsProc (by decide) (fun n cs y hl hy _ => by obtain ⟨v, a, b, c⟩ := proc_of hl hy; exact ⟨v, ⟨a, b⟩, c⟩) t2 p2
  obtain ⟨f3, r3, g3⟩ := row_of itC (fun v => v.fitS ∧ v.fit) ⟨0, 0, 0, ⟨#[]⟩, 0, 0, 0, ⟨#[]⟩⟩ ⟨⟨by decide, by decide, by decide, by decide⟩, by decide, by decide, by decide, by decide⟩ (fun _ => rfl) Tryz.underlying23 cellsItem (by decide) (fun n cs y hl hy hw => item_of hl hy hw) t3 p3
  obtain ⟨f4, r4, g4⟩ := row_of clC (fun v => v.fitS) ⟨0, ⟨#[]⟩, 0, 0, ⟨#[]⟩⟩ ⟨by decide, by decide, by decide, by decide, by decide⟩ (fun _ => rfl) Tryz.underlying24 cellsCell (by decide) (fun n cs y hl hy hw => cell_of hl hy hw) t4 p4
  obtain ⟨f5, r5, g5⟩ := row_of waC (fun v => v.fitS ∧ v.fit) ⟨0, 0, 0, 0, ⟨#[]⟩, 0, false⟩ ⟨⟨by decide, by decide⟩, by decide, by decide⟩ (fun _ => rfl) Tryz.underlying25 cellsWatch (by decide) (fun n cs y hl hy hw => watch_of hl hy hw) t5 p5
  refine ⟨⟨z0, z1, o2, m2, q2, f2, o3, m3, q3, f3, o4, m4, q4, f4, o5, m5, q5, f5⟩, ⟨fun k => (g2 k).1, fun k => (g3 k).1, g4, fun k => (g5 k).1⟩, ⟨fun k => (g2 k).1, fun k => (g3 k).2, fun k => (g5 k).2⟩, ⟨r2, fun k _ => (g2 k).2, r3, r4, r5⟩, rfl⟩
end
end Go.Proofs.YtjakdbahopbggaaGreatDoor
