/- The package-level tables in the memory of the evaluator with maps. Conditions: none. -/
import Derived.Test.YtjakdbahopbggaaGreatDoorZGl
import Derived.Test.YtjakdbahopbggaaGreatDoorZOmB
import Derived.Test.YtjakdbahopbggaaGreatDoorZSv18
import Derived.Test.YtjakdbahopbggaaGreatDoorZSv19
import Derived.Test.YtjakdbahopbggaaGreatDoorZSv20
import Derived.Test.YtjakdbahopbggaaGreatDoorZSRef9
import Derived.Test.YtjakdbahopbggaaGreatDoorZEvB
import Derived.WalkKit
import Derived.ProofKit
import Derived.OpenShut
import Derived.Carry
import Derived.ChangeMaps5
import Derived.Lib.SmallJoins
import Derived.Deep.Slices
import Derived.Test.YtjakdbahopbggaaGreatDoorZK21
section
namespace Go.Proofs.YtjakdbahopbggaaGreatDoor
open Go.RowKit Go.ChangeShapes

noncomputable def orc : Om.Orc := fun _ _ => none
theorem orc_ok : Om.OrcOK Tryz.prog orc := fun _ _ _ h => by cases h
noncomputable def goCells : List (Nat × List Om.AV) :=
  (1, resRow.map fun s => .lit (.string s)) ::
  (2, .lit (.slice none 0 0) :: (List.range' 1 15).map fun i => .sl (gN + i) 0 (evRow i).length (.known (evRow i).length)) ::
  (List.range' 1 15).map fun i => (gN + i, (evRow i).map fun (n : Nat) => .lit (.int .u8 n))
def goMap (A : Nat → Nat × Nat) : Om.G := ⟨fun b => if b < gN then some (b, 0) else if b < gN + 16 then some (A (b - gN)) else none, fun _ => none⟩
noncomputable def goStart : Om.H := Om.startAt (gN + 16) goCells
theorem goHr {A : Nat → Nat × Nat} {w : World} (h : Gl A w) : Om.HR (goMap A) goStart (fun B => w.heap[B]?) w w := by
  refine Om.hr_known (fun b hb => ?_) (fun t => rfl) ?_
  · simp only [goMap]
    rw [if_neg (by omega), if_neg (by omega)]
  · intro b cs hm
    simp only [goCells, List.mem_cons, List.mem_map, Prod.mk.injEq] at hm
    rcases hm with ⟨rfl, rfl⟩ | ⟨rfl, rfl⟩ | ⟨i, hi, rfl, rfl⟩
    · obtain ⟨cs, t, h1, h2, h3⟩ := h.res
      refine ⟨1, 0, cs, t, by simp [goMap, gN], h1, by rw [h2]; decide, fun i v hv => ?_⟩
      rw [List.getElem?_map, Option.map_eq_some_iff] at hv
      obtain ⟨s, hs, rfl⟩ := hv
      exact ⟨_, by rw [Nat.zero_add]; exact h3 i s hs, .lit _⟩
    · obtain ⟨cs, t, h1, h2, h3, h4⟩ := h.evs
      refine ⟨2, 0, cs, t, by simp [goMap, gN], h1, by rw [h2]; decide, fun i v hv => ?_⟩
      rw [Nat.zero_add]
      cases i with
      | zero =>
        simp at hv
        subst hv
        exact ⟨_, h3, .lit _⟩
      | succ i =>
        rw [List.getElem?_cons_succ, List.getElem?_map, Option.map_eq_some_iff] at hv
        obtain ⟨j, hj, rfl⟩ := hv
        have hi : i < 15 := by have := (List.getElem?_eq_some_iff.1 hj).1; simpa using this
        rw [List.getElem?_range' hi] at hj
        injection hj with hj
        obtain rfl : j = i + 1 := by omega
        refine ⟨_, h4 (i + 1) (by omega) (by omega), ?_⟩
        refine .sl (B := (A (i + 1)).1) (O := (A (i + 1)).2) ?_ (.known _)
        simp only [goMap]
        rw [if_neg (by omega), if_pos (by omega)]
        congr 2
        omega
    · rw [List.mem_range'] at hi
      obtain ⟨q, hq, rfl⟩ := hi
      obtain ⟨cs, t, h1, h2, h3⟩ := h.row (1 + 1 * q) (by omega) (by omega)
      refine ⟨(A (1 + 1 * q)).1, (A (1 + 1 * q)).2, cs, t, ?_, h1, by rw [List.length_map]; exact h2, fun j v hv => ?_⟩
      · simp only [goMap]
        rw [if_neg (by omega), if_pos (by omega)]
        congr 2
        omega
      · rw [List.getElem?_map, Option.map_eq_some_iff] at hv
        obtain ⟨x, hx, rfl⟩ := hv
        exact ⟨_, h3 j x hx, .lit _⟩
/-- a closed function that says true by the evaluator returns true -/
theorem goYes {A : Nat → Nat × Nat} {w : World} (h : Gl A w) {fuel : Nat} {f : FuncId} (hc : Om.yes (Om.callWith Tryz.prog (Om.run Tryz.prog orc fuel) f [] goStart) = true) :
    Calls Tryz.prog f #[] w fun e w' => e = .returned (.bool true) ∧ Below w.heap.size w w' :=
  Om.yes_known mixed orc_ok hc w (fun g hg => by rw [globals2] at hg; simp [goMap, gN, hg]) (goHr h)

end Go.Proofs.YtjakdbahopbggaaGreatDoor
end
/- callboardlaw30.SaveChanged returns true for any two states in memory. Conditions: their strings are of a real size; their numbers are numbers of their kinds. -/
section
namespace Go.Proofs.YtjakdbahopbggaaGreatDoor
open Go.RowKit Go.Ow Go.Wi

theorem awake_run : Om.yes (Om.callWith Tryz.prog (Om.run Tryz.prog orc 300) 6 [] goStart) = true := by kernel_rfl
theorem awake_any {A : Nat → Nat × Nat} {w : World} (h : Gl A w) : Calls Tryz.prog 6 #[] w fun e w' => e = .returned (.bool true) ∧ Below w.heap.size w w' := goYes h awake_run
theorem saveChanged_run {A : Nat → Nat × Nat} (a b : Sm) (w : World) (hG : Gl A w) (ha : a.at w) (hb : b.at w) (fa : a.fit) (fb : b.fit) (ga : a.st.fit) (gb : b.st.fit) :
    Calls Tryz.prog 3 #[.agg a.cs, .agg b.cs] w fun e w' => e = .returned (.bool true) ∧ Below w.heap.size w w' := by
  have ep : ∀ {s : Sm}, lgB s = false → ((lgB s = false ∧ KeysOk s.st) ↔ KeysOk s.st) := fun h => ⟨fun x => x.2, fun x => ⟨h, x⟩⟩
  refine saveChanged_walk a b w (lgB a = false ∧ KeysOk a.st) (lgB b = false ∧ KeysOk b.st) (keysL a.st) (keysL b.st) (lgB a) (lgB b) (sameS a.st b.st)
    (fun h => ⟨h.2.rise, keys_len h.2 (lgB_small h.1)⟩) (fun h => ⟨h.2.rise, keys_len h.2 (lgB_small h.1)⟩) (fun h h' => (keys_same h.2 h'.2 ga gb).symm)
    (fun W hW => large_any a W (ha.below hW)) (fun W hW => large_any b W (hb.below hW)) (fun W hW => awake_any (hG.below hW)) ?_ ?_ ?_ ?_ ?_
  · intro h W hW
    rw [propext (ep h)]
    exact keys_kr a W (hG.below hW) (ha.below hW) fa (lgB_small h)
  · intro h W hW
    rw [propext (ep h)]
    exact keys_kr b W (hG.below hW) (hb.below hW) fb (lgB_small h)
  · intro h h' W hW
    rw [propext (ep h), propext (ep h')]
    exact changes_any a b W (hG.below hW) (ha.below hW) (hb.below hW) fa fb (lgB_small h) (lgB_small h')
  · intro h h' W hW
    rw [propext (ep h), propext (ep h')]
    exact changes_any b a W (hG.below hW) (hb.below hW) (ha.below hW) fb fa (lgB_small h') (lgB_small h)
  · intro h h' W hW
    exact same18_any a b W (ha.below hW) (hb.below hW) (lgB_small h) (fun k W' h1 h2 hW' => rsame_any (a.df k) (b.df k) W' (((ha.da k h1).below hW).below hW') (((hb.da k h2).below hW).below hW') (fa.d k) (fb.d k))
end Go.Proofs.YtjakdbahopbggaaGreatDoor
end
/- The last step of a law's row: the call returned true and left all that was there: so its arguments read as they did. Conditions: none. -/
section
namespace Go.Law
open Go.RowKit Go.WideShapes Go.ChangeShapes

section
variable {H : Type} {enc : TypeId × Value → H} {P : Program}
theorem trodAll_stays (hl : laidOutB P = true) {W W' : World} {sp : Nat → Bool} (hb : Below W.heap.size W W') :
    ∀ {ts : List TypeId} {vs : List Value} {ds : List (DataW H)} {ps : List MemPlace}, ts.all (fun t => P.readableRec t && decide (t < P.types.size)) = true →
    DataW.TrodAll enc P W 0 (fun _ => true) true ts vs ds ps → (∀ p ∈ ps, p.block < W.heap.size) → (∀ p ∈ ps, sp p.block = true) → DataW.TrodAll enc P W' 0 sp true ts vs ds ps
  | [], vs, ds, ps, _, h, _, _ => by
    cases vs <;> cases ds <;> simp [DataW.TrodAll] at h ⊢
    exact h
  | t :: ts, vs, ds, ps, ht, h, hlt, hsp => by
    simp only [List.all_cons, Bool.and_eq_true, decide_eq_true_eq] at ht
    obtain ⟨v, vs', d, ds', p, q, rfl, rfl, rfl, h1, h2⟩ := trodAll_cons h
    exact trodAll_cons_mk (WideElems.Trod_stays hl ht.1.1 ht.1.2 h1 (fun x hx => hb.same (hlt x (by simp [hx]))) (fun x hx => hsp x (by simp [hx])))
      (trodAll_stays hl hb ht.2 h2 (fun x hx => hlt x (by simp [hx])) (fun x hx => hsp x (by simp [hx])))

theorem post_true {f : Func} {s : ChangeSpec} {apart fresh handsOn again : Bool} {W W' : World} {args : Array Value} {ds gs : List (DataW H)} {before : List MemPlace} {tb : TypeId}
    (hsv : s.vars = []) (hres : f.resultTypes = #[tb]) (htb : P.underlying tb = some .bool) (hl : laidOutB P = true) (hts : f.params.toList.all (fun t => P.readableRec t && decide (t < P.types.size)) = true)
    (hW : DataW.Whole enc P f.params.toList s.vars apart W args.toList ds gs before)
    (hr : (s.fn H ds).results = [.lit (.bool true)]) (ha : (s.fn H ds).args = ds) (hv : (s.fn H ds).vars = []) (hb : Below W.heap.size W W') :
    s.post enc P f apart fresh handsOn again W args (.bool true) W' := by
  have hlt : ∀ p ∈ before, p.block < W.heap.size := fun p hp => hW.lt p hp
  have hW' := hW
  obtain ⟨p, q, hA, hV, rfl, hfz, hnd⟩ := hW
  rw [hsv] at hV
  obtain ⟨rfl, rfl⟩ := trodVars_none hV
  refine Ev.post_of_below (pa := p) (pv := []) hW' (fun _ _ _ => ?_) (fun sp hsp => ?_) (fun sp _ => ?_) rfl hb (ok_one hres rfl (okWide_bool_mk htb _))
  · rw [List.append_nil, hr, hres]
    exact trodAll_cons_mk (p' := []) (shut_bool htb _) trodAll_mk0
  · rw [List.append_nil, ha]
    exact trodAll_stays hl hb hts hA (fun x hx => hlt x (by simp [hx])) (fun x hx => hsp x (by simp [hx]))
  · rw [List.append_nil, hv, hsv]
    rfl
end
end Go.Law
end
/- What a slice among the arguments holds, element by element: its cells in memory, and how each element reads. Conditions: none. -/
section
namespace Go.Law
open Go.RowKit Go.WideShapes Go.ChangeShapes Go.Deep

theorem addr_at {w : World} {a : Addr} {v : Value} (h : w.cell? a = some v) : ∃ b off, a = ⟨b, off, none⟩ ∧ b < w.heap.size := by
  obtain ⟨b, off, spot⟩ := a
  unfold World.cell? at h
  split at h
  · rename_i heq
    cases spot with
    | none => exact ⟨b, off, rfl, (Array.getElem?_eq_some_iff.1 heq).1⟩
    | some _ => simp at h
  · cases h
theorem add_at (b off k : Nat) : (Addr.mk b off none).add k = ⟨b, off + k, none⟩ := by
  unfold Addr.add
  split
  · rename_i h; subst h; rfl
  · rfl

section
variable {H : Type} {enc : TypeId × Value → H} {P : Program} {w : World} {base : Nat} {spare : Nat → Bool} {held : Bool}
/-- the elements of a slice: C cells each -/
theorem slice_cells {t e : TypeId} {fuel : Nat} {o : Option Addr} {len cap C : Nat} {x : DataW H × List MemPlace} (ht : P.underlying t = some (.slice e)) (hC : P.cellsOf e = C) (hp : 0 < C)
    (h : DataW.trod enc P w base spare held fuel t [.slice o len cap] = some x) :
    len ≤ maxLen ∧ len ≤ cap ∧ ∀ k, k < len → ∃ (cs : List Value) (n : Nat) (y : DataW H × List MemPlace), cs.length = C ∧ DataW.trod enc P w base spare held n e cs = some y ∧
      ∃ b off, o = some ⟨b, off, none⟩ ∧ b < w.heap.size ∧ ∀ j, j < C → w.cell? ⟨b, off + (k * C + j), none⟩ = cs[j]? := by
  rcases open_slice ht h with ⟨hcs, _⟩ | ⟨a, len', cap', m, n, D, Pl, hcs, hb, hl, hm, hmm, hx, hi⟩
  · simp at hcs
    obtain ⟨rfl, rfl, rfl⟩ := hcs
    exact ⟨by simp, by simp, fun k hk => by omega⟩
  · simp at hcs
    obtain ⟨rfl, rfl, rfl⟩ := hcs
    have hlm : len ≤ m := by rw [hmm]; split <;> omega
    refine ⟨by omega, hl, fun k hk => ?_⟩
    rw [hC] at hi
    obtain ⟨cs0, hc0, _⟩ := hi 0 (by omega)
    obtain ⟨_, hl0, hat0⟩ := World.cells?_some hc0
    have h0 := hat0 0 hp
    rw [add_add, Nat.zero_mul] at h0
    have hz : a.add 0 = a := by unfold Addr.add; simp
    rw [hz, List.getElem?_eq_getElem (by omega)] at h0
    obtain ⟨b, off, rfl, hbl⟩ := addr_at h0
    obtain ⟨cs', hc, ht'⟩ := hi k (by omega)
    obtain ⟨_, hcl, hat⟩ := World.cells?_some hc
    refine ⟨cs', n, _, hcl, ht', b, off, rfl, hbl, fun j hj => ?_⟩
    rw [← hat j hj, add_add, add_at]
/-- the fields of a struct of one-cell fields -/
theorem struct_cell {t : TypeId} {fs : Array Field} {fuel : Nat} {cs : List Value} {x : DataW H × List MemPlace} (ht : P.underlying t = some (.struct fs)) (h : DataW.trod enc P w base spare held fuel t cs = some x)
    (j : Nat) (f : Field) (hf : fs[j]? = some f) (ho : f.offset = j) (hc : P.cellsOf f.type = 1) (hj : j < cs.length) :
    ∃ (v : Value) (n : Nat) (y : DataW H × List MemPlace), cs[j]? = some v ∧ DataW.trod enc P w base spare held n f.type [v] = some y := by
  obtain ⟨ys, n', hn', hy, hlen, hyl, hff⟩ := DataW.trod_struct ht h
  have h1 := hff j f hf
  rw [ho, hc] at h1
  have hone' : (cs.drop j).take 1 = [cs[j]'hj] := by
    rw [List.drop_eq_getElem_cons hj]
    rfl
  rw [hone'] at h1
  have hjl : j < fs.size := (Array.getElem?_eq_some_iff.1 hf).1
  have hys : ys[j]? = some (ys[j]'(by omega)) := List.getElem?_eq_getElem (by omega)
  exact ⟨cs[j]'hj, n', _, List.getElem?_eq_getElem hj, h1.trans hys⟩
end
end Go.Law
end
/- A process, a node, a flow, variables among the arguments: what they hold. Conditions: none. -/
section
namespace Go.Proofs.YtjakdbahopbggaaGreatDoor
open Go.RowKit Go.Ow Go.Law Go.WideShapes Go.ChangeShapes Go.Deep

theorem cellsI64 : Tryz.prog.cellsOf 2 = 1 := by kernel_rfl
theorem cellsInt : Tryz.prog.cellsOf 3 = 1 := by kernel_rfl
theorem cellsBool : Tryz.prog.cellsOf 4 = 1 := by kernel_rfl
theorem cellsStr : Tryz.prog.cellsOf 9 = 1 := by kernel_rfl
theorem cellsVars : Tryz.prog.cellsOf 60 = 1 := by kernel_rfl
theorem cellsStrs : Tryz.prog.cellsOf 34 = 1 := by kernel_rfl
theorem cellsNodes : Tryz.prog.cellsOf 61 = 1 := by kernel_rfl
theorem cellsFlows : Tryz.prog.cellsOf 62 = 1 := by kernel_rfl
theorem cellsVar : Tryz.prog.cellsOf 148 = 4 := by kernel_rfl
theorem cellsVal : Tryz.prog.cellsOf 51 = 3 := by kernel_rfl
theorem cellsNode : Tryz.prog.cellsOf 111 = 11 := by kernel_rfl
theorem cellsFlow : Tryz.prog.cellsOf 114 = 4 := by kernel_rfl
theorem wf64 {n : Int} (h : (Lit.int .i64 n).wf = true) : -9223372036854775808 ≤ n ∧ n ≤ 9223372036854775807 := by simpa [Lit.wf, IntKind.min, IntKind.max, IntKind.signed, IntKind.bits] using h
theorem wf8 {n : Int} (h : (Lit.int .u8 n).wf = true) : ∃ k : Nat, n = k ∧ k < 256 := by
  have h' : 0 ≤ n ∧ n ≤ 255 := by simpa [Lit.wf, IntKind.min, IntKind.max, IntKind.signed, IntKind.bits] using h
  obtain ⟨a, rfl⟩ := Int.eq_ofNat_of_zero_le h'.1
  exact ⟨a, rfl, by omega⟩

section
variable {H : Type} {enc : TypeId × Value → H} {w : World} {base : Nat} {spare : Nat → Bool} {held : Bool}
/-- a field of a struct, of any number of cells -/
theorem struct_part {P : Program} {t : TypeId} {fs : Array Field} {fuel : Nat} {cs : List Value} {x : DataW H × List MemPlace} (ht : P.underlying t = some (.struct fs)) (h : DataW.trod enc P w base spare held fuel t cs = some x)
    (j : Nat) (f : Field) (hf : fs[j]? = some f) {o C : Nat} (ho : f.offset = o) (hc : P.cellsOf f.type = C) :
    ∃ (n : Nat) (y : DataW H × List MemPlace), DataW.trod enc P w base spare held n f.type ((cs.drop o).take C) = some y := by
  obtain ⟨ys, n', hn', hy, hlen, hyl, hff⟩ := DataW.trod_struct ht h
  have h1 := hff j f hf
  rw [ho, hc] at h1
  have hjl : j < fs.size := (Array.getElem?_eq_some_iff.1 hf).1
  have hys : ys[j]? = some (ys[j]'(by omega)) := List.getElem?_eq_getElem (by omega)
  exact ⟨n', _, h1.trans hys⟩
theorem str_of {fuel : Nat} {v : Value} {x : DataW H × List MemPlace} (h : DataW.trod enc Tryz.prog w base spare held fuel 9 [v] = some x) : ∃ s : ByteArray, v = .string s ∧ s.size ≤ 9223372036854775807 := by
  obtain ⟨z, hz, _, wz⟩ := DataW.trod_string Tryz.underlying9 h
  simp at hz
  exact ⟨z, hz, by unfold maxLen at wz; exact wz⟩
theorem int_of {fuel : Nat} {v : Value} {x : DataW H × List MemPlace} (h : DataW.trod enc Tryz.prog w base spare held fuel 3 [v] = some x) : ∃ s : Int, v = .int .i64 s ∧ -9223372036854775808 ≤ s ∧ s ≤ 9223372036854775807 := by
  obtain ⟨z, hz, _, wz⟩ := DataW.trod_int Tryz.underlying3 h
  simp at hz
  exact ⟨z, hz, wf64 wz⟩
theorem i64_of {fuel : Nat} {v : Value} {x : DataW H × List MemPlace} (h : DataW.trod enc Tryz.prog w base spare held fuel 2 [v] = some x) : ∃ s : Int, v = .int .i64 s ∧ -9223372036854775808 ≤ s ∧ s ≤ 9223372036854775807 := by
  obtain ⟨z, hz, _, wz⟩ := DataW.trod_int Tryz.underlying2 h
  simp at hz
  exact ⟨z, hz, wf64 wz⟩
theorem u8_of {fuel : Nat} {v : Value} {x : DataW H × List MemPlace} (h : DataW.trod enc Tryz.prog w base spare held fuel 5 [v] = some x) : ∃ s : Nat, v = .int .u8 s ∧ s < 256 := by
  obtain ⟨z, hz, _, wz⟩ := DataW.trod_int Tryz.underlying5 h
  simp at hz
  obtain ⟨k, rfl, hk⟩ := wf8 wz
  exact ⟨k, hz, hk⟩
theorem bool_of {fuel : Nat} {v : Value} {x : DataW H × List MemPlace} (h : DataW.trod enc Tryz.prog w base spare held fuel 4 [v] = some x) : ∃ s : Bool, v = .bool s := by
  obtain ⟨z, hz, _⟩ := DataW.trod_bool Tryz.underlying4 h
  simp at hz
  exact ⟨z, hz⟩
theorem slice_of {t e : TypeId} {fuel : Nat} {v : Value} {x : DataW H × List MemPlace} (ht : Tryz.prog.underlying t = some (.slice e)) (h : DataW.trod enc Tryz.prog w base spare held fuel t [v] = some x) : ∃ o n c, v = .slice o n c := by
  rcases open_slice ht h with ⟨hcs, _⟩ | ⟨a, len', cap', m, n, D, Pl, hcs, _⟩
  · simp at hcs; exact ⟨_, _, _, hcs⟩
  · simp at hcs; exact ⟨_, _, _, hcs⟩
theorem len_of {n : Nat} (h : n ≤ maxLen) : n ≤ 9223372036854775807 := by unfold maxLen at h; exact h
/-- one variable -/
theorem var_of {fuel : Nat} {cs : List Value} {x : DataW H × List MemPlace} (hl : cs.length = 4) (h : DataW.trod enc Tryz.prog w base spare held fuel 148 cs = some x) :
    ∃ v : Va, v.fit ∧ cs = [.string v.nm, .int .u8 v.k, .int .i64 v.n, .string v.t] := by
  obtain ⟨c0, c1, c2, c3, rfl⟩ : ∃ c0 c1 c2 c3, cs = [c0, c1, c2, c3] := by
    match cs, hl with
    | [c0, c1, c2, c3], _ => exact ⟨c0, c1, c2, c3, rfl⟩
  obtain ⟨n0, y0, t0⟩ := struct_part Tryz.underlying148 h 0 _ rfl rfl cellsStr
  obtain ⟨n1, y1, t1⟩ := struct_part Tryz.underlying148 h 1 _ rfl rfl cellsVal
  obtain ⟨n2, y2, t2⟩ := struct_part Tryz.underlying51 t1 0 _ rfl rfl cU8
  obtain ⟨n3, y3, t3⟩ := struct_part Tryz.underlying51 t1 1 _ rfl rfl cellsI64
  obtain ⟨n4, y4, t4⟩ := struct_part Tryz.underlying51 t1 2 _ rfl rfl cellsStr
  obtain ⟨s, rfl, hs⟩ := str_of t0
  obtain ⟨k, rfl, hk⟩ := u8_of t2
  obtain ⟨i, rfl, hi⟩ := i64_of t3
  obtain ⟨u, rfl, hu⟩ := str_of t4
  exact ⟨⟨s, k, i, u⟩, ⟨hs, hk, hi.1, hi.2, hu⟩, rfl⟩
theorem vars_of {fuel : Nat} {o : Option Addr} {len cap : Nat} {x : DataW H × List MemPlace} (h : DataW.trod enc Tryz.prog w base spare held fuel 60 [.slice o len cap] = some x) :
    len ≤ 9223372036854775807 ∧ len ≤ cap ∧ ∃ f : Nat → Va, Vr w o len f ∧ ∀ k, (f k).fit := by
  obtain ⟨h1, h0, h2⟩ := slice_cells Tryz.underlying60 cellsVar (by decide) h
  refine ⟨len_of h1, h0, ?_⟩
  have h3 : ∀ k, ∃ z : Va, z.fit ∧ (k < len → ∃ b off, o = some ⟨b, off, none⟩ ∧ b < w.heap.size ∧ w.cell? ⟨b, off + k * 4, none⟩ = some (.string z.nm) ∧ w.cell? ⟨b, off + k * 4 + 1, none⟩ = some (.int .u8 z.k) ∧ w.cell? ⟨b, off + k * 4 + 2, none⟩ = some (.int .i64 z.n) ∧ w.cell? ⟨b, off + k * 4 + 3, none⟩ = some (.string z.t)) := fun k => by
    by_cases hk : k < len
    · obtain ⟨cs, n, y, hl, hy, b, off, ho, hb, hc⟩ := h2 k hk
      obtain ⟨v, hv, rfl⟩ := var_of hl hy
      exact ⟨v, hv, fun _ => ⟨b, off, ho, hb, hc 0 (by decide), hc 1 (by decide), hc 2 (by decide), hc 3 (by decide)⟩⟩
    · exact ⟨⟨⟨#[]⟩, 0, 0, ⟨#[]⟩⟩, ⟨by decide, by decide, by decide, by decide, by decide⟩, fun h => absurd h hk⟩
  exact ⟨fun k => (h3 k).choose, fun k hk => (h3 k).choose_spec.2 hk, fun k => (h3 k).choose_spec.1⟩
theorem strs_of {fuel : Nat} {o : Option Addr} {len cap : Nat} {x : DataW H × List MemPlace} (h : DataW.trod enc Tryz.prog w base spare held fuel 34 [.slice o len cap] = some x) :
    len ≤ 9223372036854775807 ∧ len ≤ cap ∧ ∃ f : Nat → ByteArray, Ss w o len f ∧ ∀ k, (f k).size ≤ 9223372036854775807 := by
  obtain ⟨h1, h0, h2⟩ := slice_cells Tryz.underlying34 cellsStr (by decide) h
  refine ⟨len_of h1, h0, ?_⟩
  have h3 : ∀ k, ∃ z : ByteArray, z.size ≤ 9223372036854775807 ∧ (k < len → ∃ b off, o = some ⟨b, off, none⟩ ∧ b < w.heap.size ∧ w.cell? ⟨b, off + k, none⟩ = some (.string z)) := fun k => by
    by_cases hk : k < len
    · obtain ⟨cs, n, y, hl, hy, b, off, ho, hb, hc⟩ := h2 k hk
      obtain ⟨z, rfl, _, wz⟩ := DataW.trod_string Tryz.underlying9 hy
      have := hc 0 (by decide)
      simp at this
      exact ⟨z, len_of wz, fun _ => ⟨b, off, ho, hb, this⟩⟩
    · exact ⟨⟨#[]⟩, by decide, fun h => absurd h hk⟩
  exact ⟨fun k => (h3 k).choose, fun k hk => (h3 k).choose_spec.2 hk, fun k => (h3 k).choose_spec.1⟩
/-- one node -/
theorem node_of {fuel : Nat} {cs : List Value} {x : DataW H × List MemPlace} (hl : cs.length = 11) (h : DataW.trod enc Tryz.prog w base spare held fuel 111 cs = some x) :
    ∃ v : Nod, v.fit ∧ v.at w ∧ cs = v.cs.toList := by
  obtain ⟨c0, c1, c2, c3, c4, c5, c6, c7, c8, c9, c10, rfl⟩ : ∃ c0 c1 c2 c3 c4 c5 c6 c7 c8 c9 c10, cs = [c0, c1, c2, c3, c4, c5, c6, c7, c8, c9, c10] := by
    match cs, hl with
    | [c0, c1, c2, c3, c4, c5, c6, c7, c8, c9, c10], _ => exact ⟨c0, c1, c2, c3, c4, c5, c6, c7, c8, c9, c10, rfl⟩
  obtain ⟨n0, y0, t0⟩ := struct_part Tryz.underlying111 h 0 _ rfl rfl cellsStr
  obtain ⟨n1, y1, t1⟩ := struct_part Tryz.underlying111 h 1 _ rfl rfl cU8
  obtain ⟨n2, y2, t2⟩ := struct_part Tryz.underlying111 h 2 _ rfl rfl cellsInt
  obtain ⟨n3, y3, t3⟩ := struct_part Tryz.underlying111 h 3 _ rfl rfl cellsInt
  obtain ⟨n4, y4, t4⟩ := struct_part Tryz.underlying111 h 4 _ rfl rfl cU8
  obtain ⟨n5, y5, t5⟩ := struct_part Tryz.underlying111 h 5 _ rfl rfl cellsStr
  obtain ⟨n6, y6, t6⟩ := struct_part Tryz.underlying111 h 6 _ rfl rfl cellsStr
  obtain ⟨n7, y7, t7⟩ := struct_part Tryz.underlying111 h 7 _ rfl rfl cellsStr
  obtain ⟨n8, y8, t8⟩ := struct_part Tryz.underlying111 h 8 _ rfl rfl cellsBool
  obtain ⟨n9, y9, t9⟩ := struct_part Tryz.underlying111 h 9 _ rfl rfl cellsVars
  obtain ⟨n10, y10, t10⟩ := struct_part Tryz.underlying111 h 10 _ rfl rfl cellsStrs
  obtain ⟨z0, rfl, w0⟩ := str_of t0
  obtain ⟨z1, rfl, w1⟩ := u8_of t1
  obtain ⟨z2, rfl, w2⟩ := int_of t2
  obtain ⟨z3, rfl, w3⟩ := int_of t3
  obtain ⟨z4, rfl, w4⟩ := u8_of t4
  obtain ⟨z5, rfl, w5⟩ := str_of t5
  obtain ⟨z6, rfl, w6⟩ := str_of t6
  obtain ⟨z7, rfl, w7⟩ := str_of t7
  obtain ⟨z8, rfl⟩ := bool_of t8
  obtain ⟨o1, m1, q1, rfl⟩ := slice_of Tryz.underlying60 t9
  obtain ⟨o2, m2, q2, rfl⟩ := slice_of Tryz.underlying34 t10
  obtain ⟨l1, k1, f1, v1, g1⟩ := vars_of t9
  obtain ⟨l2, k2, f2, v2, g2⟩ := strs_of t10
  exact ⟨⟨⟨z0, z1, z2, z3, z4, z5, z6, z7, z8⟩, o1, m1, q1, f1, o2, m2, q2, f2⟩, ⟨⟨w0, w1, w2.1, w2.2, w3.1, w3.2, w4, w5, w6, w7⟩, g1, g2, l1, l2, k1, k2⟩, ⟨v1, v2⟩, rfl⟩
def vaZ : Va := ⟨⟨#[]⟩, 0, 0, ⟨#[]⟩⟩
theorem vaZ_fit : vaZ.fit := ⟨by decide, by decide, by decide, by decide, by decide⟩
theorem emp_le : (⟨#[]⟩ : ByteArray).size ≤ 9223372036854775807 := by decide
def nodZ : Nod := ⟨⟨⟨#[]⟩, 0, 0, 0, 0, ⟨#[]⟩, ⟨#[]⟩, ⟨#[]⟩, false⟩, none, 0, 0, fun _ => vaZ, none, 0, 0, fun _ => ⟨#[]⟩⟩
theorem nodZ_fit : nodZ.fit := ⟨⟨by decide, by decide, by decide, by decide, by decide, by decide, by decide, by decide, by decide, by decide⟩, fun _ => vaZ_fit, fun _ => emp_le, by decide, by decide, by decide, by decide⟩
theorem nodes_of {fuel : Nat} {o : Option Addr} {len cap : Nat} {x : DataW H × List MemPlace} (h : DataW.trod enc Tryz.prog w base spare held fuel 61 [.slice o len cap] = some x) :
    len ≤ 9223372036854775807 ∧ len ≤ cap ∧ ∃ f : Nat → Nod, NdA w o len f ∧ ∀ k, (f k).fit := by
  obtain ⟨h1, h0, h2⟩ := slice_cells Tryz.underlying61 cellsNode (by decide) h
  refine ⟨len_of h1, h0, ?_⟩
  have h3 : ∀ k, ∃ z : Nod, z.fit ∧ (k < len → z.at w ∧ ∃ b off, o = some ⟨b, off, none⟩ ∧ b < w.heap.size ∧ ∀ j, j < 11 → w.cell? ⟨b, off + (k * 11 + j), none⟩ = z.cs.toList[j]?) := fun k => by
    by_cases hk : k < len
    · obtain ⟨cs, n, y, hl, hy, b, off, ho, hb, hc⟩ := h2 k hk
      obtain ⟨v, hv, ha, rfl⟩ := node_of hl hy
      exact ⟨v, hv, fun _ => ⟨ha, b, off, ho, hb, hc⟩⟩
    · exact ⟨nodZ, nodZ_fit, fun h => absurd h hk⟩
  refine ⟨fun k => (h3 k).choose, fun k hk => ?_, fun k => (h3 k).choose_spec.1⟩
  obtain ⟨ha, b, off, ho, hb, hc⟩ := (h3 k).choose_spec.2 hk
  exact ⟨b, off, ho, hb, ha, hc 0 (by decide), hc 1 (by decide), hc 2 (by decide), hc 3 (by decide), hc 4 (by decide), hc 5 (by decide), hc 6 (by decide), hc 7 (by decide), hc 8 (by decide), hc 9 (by decide), hc 10 (by decide)⟩
theorem flow_of {fuel : Nat} {cs : List Value} {x : DataW H × List MemPlace} (hl : cs.length = 4) (h : DataW.trod enc Tryz.prog w base spare held fuel 114 cs = some x) :
    ∃ v : Fl, v.fit ∧ cs = (flowC v).toList := by
  obtain ⟨c0, c1, c2, c3, rfl⟩ : ∃ c0 c1 c2 c3, cs = [c0, c1, c2, c3] := by
    match cs, hl with
    | [c0, c1, c2, c3], _ => exact ⟨c0, c1, c2, c3, rfl⟩
  obtain ⟨n0, y0, t0⟩ := struct_part Tryz.underlying114 h 0 _ rfl rfl cellsInt
  obtain ⟨n1, y1, t1⟩ := struct_part Tryz.underlying114 h 1 _ rfl rfl cellsInt
  obtain ⟨n2, y2, t2⟩ := struct_part Tryz.underlying114 h 2 _ rfl rfl cellsStr
  obtain ⟨n3, y3, t3⟩ := struct_part Tryz.underlying114 h 3 _ rfl rfl cellsBool
  obtain ⟨z0, rfl, w0⟩ := int_of t0
  obtain ⟨z1, rfl, w1⟩ := int_of t1
  obtain ⟨z2, rfl, w2⟩ := str_of t2
  obtain ⟨z3, rfl⟩ := bool_of t3
  exact ⟨⟨z0, z1, z2, z3⟩, ⟨w0.1, w0.2, w1.1, w1.2, w2⟩, rfl⟩
theorem flows_of {fuel : Nat} {o : Option Addr} {len cap : Nat} {x : DataW H × List MemPlace} (h : DataW.trod enc Tryz.prog w base spare held fuel 62 [.slice o len cap] = some x) :
    len ≤ 9223372036854775807 ∧ len ≤ cap ∧ ∃ f : Nat → Fl, FlA w o len f ∧ ∀ k, (f k).fit := by
  obtain ⟨h1, h0, h2⟩ := slice_cells Tryz.underlying62 cellsFlow (by decide) h
  refine ⟨len_of h1, h0, ?_⟩
  have h3 : ∀ k, ∃ z : Fl, z.fit ∧ (k < len → ∃ b off, o = some ⟨b, off, none⟩ ∧ b < w.heap.size ∧ ∀ j, j < 4 → w.cell? ⟨b, off + (k * 4 + j), none⟩ = (flowC z).toList[j]?) := fun k => by
    by_cases hk : k < len
    · obtain ⟨cs, n, y, hl, hy, b, off, ho, hb, hc⟩ := h2 k hk
      obtain ⟨v, hv, rfl⟩ := flow_of hl hy
      exact ⟨v, hv, fun _ => ⟨b, off, ho, hb, hc⟩⟩
    · exact ⟨⟨0, 0, ⟨#[]⟩, false⟩, ⟨by decide, by decide, by decide, by decide, by decide⟩, fun h => absurd h hk⟩
  refine ⟨fun k => (h3 k).choose, fun k hk => ?_, fun k => (h3 k).choose_spec.1⟩
  obtain ⟨b, off, ho, hb, hc⟩ := (h3 k).choose_spec.2 hk
  exact ⟨b, off, ho, hb, hc 0 (by decide), hc 1 (by decide), hc 2 (by decide), hc 3 (by decide)⟩
/-- one process -/
theorem proc_of {fuel : Nat} {cs : List Value} {x : DataW H × List MemPlace} (hl : cs.length = 4) (h : DataW.trod enc Tryz.prog w base spare held fuel 64 cs = some x) :
    ∃ v : Pr, v.fit ∧ v.at w ∧ cs = v.cs.toList := by
  obtain ⟨c0, c1, c2, c3, rfl⟩ : ∃ c0 c1 c2 c3, cs = [c0, c1, c2, c3] := by
    match cs, hl with
    | [c0, c1, c2, c3], _ => exact ⟨c0, c1, c2, c3, rfl⟩
  obtain ⟨n0, y0, t0⟩ := struct_part Tryz.underlying64 h 0 _ rfl rfl cellsStr
  obtain ⟨n1, y1, t1⟩ := struct_part Tryz.underlying64 h 1 _ rfl rfl cellsVars
  obtain ⟨n2, y2, t2⟩ := struct_part Tryz.underlying64 h 2 _ rfl rfl cellsNodes
  obtain ⟨n3, y3, t3⟩ := struct_part Tryz.underlying64 h 3 _ rfl rfl cellsFlows
  obtain ⟨z0, rfl, w0⟩ := str_of t0
  obtain ⟨o1, m1, q1, rfl⟩ := slice_of Tryz.underlying60 t1
  obtain ⟨o2, m2, q2, rfl⟩ := slice_of Tryz.underlying61 t2
  obtain ⟨o3, m3, q3, rfl⟩ := slice_of Tryz.underlying62 t3
  obtain ⟨l1, k1, f1, v1, g1⟩ := vars_of t1
  obtain ⟨l2, k2, f2, v2, g2⟩ := nodes_of t2
  obtain ⟨l3, k3, f3, v3, g3⟩ := flows_of t3
  exact ⟨⟨z0, o1, m1, q1, f1, o2, m2, q2, f2, o3, m3, q3, f3⟩, ⟨w0, g1, g2, g3, l1, l2, l3, k1, k2, k3⟩, ⟨v1, v2, v3⟩, rfl⟩
end
end Go.Proofs.YtjakdbahopbggaaGreatDoor
end
