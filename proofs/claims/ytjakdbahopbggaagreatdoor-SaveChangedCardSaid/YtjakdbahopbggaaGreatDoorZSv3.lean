/- What save's tellItem, tellCell, tellWatch and the closure of Keys return and write. Conditions: texts of less than 2^47 bytes. -/
import Derived.Test.YtjakdbahopbggaaGreatDoorZK12
namespace Go.Proofs.YtjakdbahopbggaaGreatDoor
open Go.RowKit Go.Ow Go.Wi Go.Inv2

/-- a box laid, and a pen -/
def PtJ (p : Nat) (w0 : World) (l : List UInt8) (ok : Bool) (V : World) : Prop := But p w0 V ∧ Pn V p l ok
theorem box_cells {w : World} {p : Nat} {cs : Array Value} {t : TypeId} (hp : p < w.heap.size) : ∀ W, But p (w.alloc (.cells cs t)).drew W → ∀ k u, cs[k]? = some u → W.cell? ⟨w.heap.size, k, none⟩ = some u := fun W hB k u h => by
  rw [hB.cell (by show w.heap.size < (w.alloc _).heap.size; simp) (by omega)]
  show (w.alloc (.cells cs t)).cell? _ = _
  rw [cell_of_row (w.alloc (.cells cs t)) w.heap.size k cs t (0, 0) (heap_alloc_new w _), h]
theorem Pn.keptB {w w' : World} {p : Nat} {l : List UInt8} {ok : Bool} (h : Pn w p l ok) (k : Below w.heap.size w w') : Pn w' p l ok := Two.keptB h k (Two.lt h)
theorem Pn.lt {w : World} {p : Nat} {l : List UInt8} {ok : Bool} (h : Pn w p l ok) : p < w.heap.size := Two.lt h
theorem But.undrew {b : Nat} {w w' : World} (h : But b w w') : But b w.drew w' := ⟨h.os, h.tape, h.output, h.size, h.block⟩
theorem known_k {n : Int} {k : Bool} (w : World) (h : knownB n = k) : Calls Tryz.prog 42 #[.int .i64 n] w fun e w' => e = .returned (.bool k) ∧ Below w.heap.size w w' := by
  subst h
  exact known_any n w
theorem wrap_byte {n : Nat} (h : n < 256) : IntKind.i64.wrap (n : Int) = n := by
  unfold IntKind.wrap
  simp [IntKind.bits, IntKind.signed]
  omega
theorem txt_len (t : ByteArray) (h : t.size ≤ 140737488351232) : (txt t).length ≤ t.size + 10 := by
  unfold txt
  have := enc_len64 t.size (by omega)
  rw [List.length_append]
  have e : t.data.toList.length = t.size := by simp
  omega

/-- what each operation of the region leaves -/
def titF (p b : Nat) (z : It) : Nat → Value → List Value → World → Prop
  | 0, u, _, _ => u = pt p
  | 1, u, _, _ => u = .pointer (some ⟨b, 1, none⟩)
  | 2, u, _, _ => u = .int .i64 z.up
  | 3, u, _, w => u = pt p ∧ Pn w p ([] ++ numL (z.up)) (true && numB (z.up))
  | 4, u, _, _ => u = .pointer (some ⟨b, 2, none⟩)
  | 5, u, _, _ => u = .int .u8 z.is
  | 6, u, _, _ => u = .int .i64 z.is
  | 7, u, _, w => u = pt p ∧ Pn w p (([] ++ numL (z.up)) ++ numL ((z.is : Int))) ((true && numB (z.up)) && numB ((z.is : Int)))
  | 8, u, _, _ => u = .pointer (some ⟨b, 3, none⟩)
  | 9, u, _, _ => u = .string z.proc
  | 10, u, _, w => u = pt p ∧ Pn w p ((([] ++ numL (z.up)) ++ numL ((z.is : Int))) ++ txt z.proc) (((true && numB (z.up)) && numB ((z.is : Int))) && decide (z.proc.size ≤ 13))
  | 11, u, _, _ => u = .pointer (some ⟨b, 4, none⟩)
  | 12, u, _, _ => u = .int .i64 z.node
  | 13, u, _, _ => u = .int .i64 (incS z.node)
  | 14, u, _, w => u = pt p ∧ Pn w p (((([] ++ numL (z.up)) ++ numL ((z.is : Int))) ++ txt z.proc) ++ numL (incS z.node)) ((((true && numB (z.up)) && numB ((z.is : Int))) && decide (z.proc.size ≤ 13)) && numB (incS z.node))
  | 15, u, _, _ => u = .pointer (some ⟨b, 5, none⟩)
  | 16, u, _, _ => u = .int .i64 z.frm
  | 17, u, _, _ => u = .int .i64 (incS z.frm)
  | 18, u, _, w => u = pt p ∧ Pn w p ((((([] ++ numL (z.up)) ++ numL ((z.is : Int))) ++ txt z.proc) ++ numL (incS z.node)) ++ numL (incS z.frm)) (((((true && numB (z.up)) && numB ((z.is : Int))) && decide (z.proc.size ≤ 13)) && numB (incS z.node)) && numB (incS z.frm))
  | 19, u, _, _ => u = .pointer (some ⟨b, 6, none⟩)
  | 20, u, _, _ => u = .int .u8 z.wait
  | 21, u, _, _ => u = .int .i64 z.wait
  | 22, u, _, w => u = pt p ∧ Pn w p (((((([] ++ numL (z.up)) ++ numL ((z.is : Int))) ++ txt z.proc) ++ numL (incS z.node)) ++ numL (incS z.frm)) ++ numL ((z.wait : Int))) ((((((true && numB (z.up)) && numB ((z.is : Int))) && decide (z.proc.size ≤ 13)) && numB (incS z.node)) && numB (incS z.frm)) && numB ((z.wait : Int)))
  | 23, u, _, _ => u = .pointer (some ⟨b, 7, none⟩)
  | 24, u, _, _ => u = .string z.code
  | 25, u, _, w => u = pt p ∧ Pn w p ((((((([] ++ numL (z.up)) ++ numL ((z.is : Int))) ++ txt z.proc) ++ numL (incS z.node)) ++ numL (incS z.frm)) ++ numL ((z.wait : Int))) ++ txt z.code) (((((((true && numB (z.up)) && numB ((z.is : Int))) && decide (z.proc.size ≤ 13)) && numB (incS z.node)) && numB (incS z.frm)) && numB ((z.wait : Int))) && decide (z.code.size ≤ 13))
  | 26, _, _, w => Pn w p [] true
  | _, _, _, _ => True
def titAnc (i : Nat) : List Nat := ([[], [], [1], [0, 1, 2], [], [4], [4, 5], [0, 1, 2, 3, 4, 5, 6], [], [8], [0, 1, 2, 3, 4, 5, 6, 7, 8, 9], [], [11], [11, 12], [0, 1, 2, 3, 4, 5, 6, 7, 8, 9, 10, 11, 12, 13], [], [15], [15, 16], [0, 1, 2, 3, 4, 5, 6, 7, 8, 9, 10, 11, 12, 13, 14, 15, 16, 17], [], [19], [19, 20], [0, 1, 2, 3, 4, 5, 6, 7, 8, 9, 10, 11, 12, 13, 14, 15, 16, 17, 18, 19, 20, 21], [], [23], [0, 1, 2, 3, 4, 5, 6, 7, 8, 9, 10, 11, 12, 13, 14, 15, 16, 17, 18, 19, 20, 21, 22, 23, 24]] : List (List Nat)).getD i []
def titNeed (i : Nat) : List Nat := ([[], [], [1], [0, 2, 26], [], [4], [5], [3, 6], [], [8], [7, 9], [], [11], [12], [10, 13], [], [15], [16], [14, 17], [], [19], [20], [18, 21], [], [23], [22, 24]] : List (List Nat)).getD i []
def titDep (i : Nat) : List Nat := ([[], [], [], [], [], [], [], [], [], [], [], [], [], [], [], [], [], [], [], [], [], [], [], [], [], []] : List (List Nat)).getD i []
def titKill (i j : Nat) : Bool := (i == 7 && j == 3) || (i == 10 && j == 3) || (i == 10 && j == 7) || (i == 14 && j == 3) || (i == 14 && j == 7) || (i == 14 && j == 10) || (i == 18 && j == 3) || (i == 18 && j == 7) || (i == 18 && j == 10) || (i == 18 && j == 14) || (i == 22 && j == 3) || (i == 22 && j == 7) || (i == 22 && j == 10) || (i == 22 && j == 14) || (i == 22 && j == 18) || (i == 25 && j == 3) || (i == 25 && j == 7) || (i == 25 && j == 10) || (i == 25 && j == 14) || (i == 25 && j == 18) || (i == 25 && j == 22) || (i == 3 && j == 26) || (i == 7 && j == 26) || (i == 10 && j == 26) || (i == 14 && j == 26) || (i == 18 && j == 26) || (i == 22 && j == 26) || (i == 25 && j == 26)
def titPure (j : Nat) : Bool := !([3, 7, 10, 14, 18, 22, 25, 26].contains j)
theorem titF_pure {j : Nat} {u : Value} {ds : List Value} {w w' : World} {p b : Nat} {z : It} (hp : titPure j = true) (h : titF p b z j u ds w) : titF p b z j u ds w' := by
  match j with
  | 0 => exact h
  | 1 => exact h
  | 2 => exact h
  | 3 => exact absurd hp (by decide)
  | 4 => exact h
  | 5 => exact h
  | 6 => exact h
  | 7 => exact absurd hp (by decide)
  | 8 => exact h
  | 9 => exact h
  | 10 => exact absurd hp (by decide)
  | 11 => exact h
  | 12 => exact h
  | 13 => exact h
  | 14 => exact absurd hp (by decide)
  | 15 => exact h
  | 16 => exact h
  | 17 => exact h
  | 18 => exact absurd hp (by decide)
  | 19 => exact h
  | 20 => exact h
  | 21 => exact h
  | 22 => exact absurd hp (by decide)
  | 23 => exact h
  | 24 => exact h
  | 25 => exact absurd hp (by decide)
  | 26 => exact absurd hp (by decide)
  | _ + 27 => trivial
theorem titF_mono {j : Nat} {u : Value} {ds : List Value} {w w' : World} {p b : Nat} {z : It} (hb : Below w.heap.size w w') (h : titF p b z j u ds w) : titF p b z j u ds w' := by
  match j with
  | 0 => exact h
  | 1 => exact h
  | 2 => exact h
  | 3 => exact ⟨h.1, h.2.keptB hb⟩
  | 4 => exact h
  | 5 => exact h
  | 6 => exact h
  | 7 => exact ⟨h.1, h.2.keptB hb⟩
  | 8 => exact h
  | 9 => exact h
  | 10 => exact ⟨h.1, h.2.keptB hb⟩
  | 11 => exact h
  | 12 => exact h
  | 13 => exact h
  | 14 => exact ⟨h.1, h.2.keptB hb⟩
  | 15 => exact h
  | 16 => exact h
  | 17 => exact h
  | 18 => exact ⟨h.1, h.2.keptB hb⟩
  | 19 => exact h
  | 20 => exact h
  | 21 => exact h
  | 22 => exact ⟨h.1, h.2.keptB hb⟩
  | 23 => exact h
  | 24 => exact h
  | 25 => exact ⟨h.1, h.2.keptB hb⟩
  | 26 => exact h.keptB hb
  | _ + 27 => trivial
theorem titKeep (x : List Nat) {i : Nat} (h : ((List.range 27).all fun j => titPure j || j == i || titKill i j || (titAnc j).contains i || x.contains j) = true) {w w' : World} {p b : Nat} {z : It} : ∀ j (vs' : Nat → Value), j ≠ i → titKill i j = false → (titAnc j).contains i = false → (x.contains j = false) →
    asrt (titF p b z) titDep j vs' w → asrt (titF p b z) titDep j vs' w' := by
  intro j vs' h1 h2 h3 h0 h4
  by_cases hj : j < 27
  · have := List.all_eq_true.1 h j (List.mem_range.2 hj)
    rw [h2, h3, h0] at this
    simp only [Bool.or_false, Bool.or_eq_true, beq_iff_eq] at this
    rcases this with h5 | h5
    · exact titF_pure h5 h4
    · exact absurd h5 h1
  · exact titF_pure (by unfold titPure; simp; omega) h4
theorem titAnc_out {j : Nat} (h : 26 ≤ j) : titAnc j = [] := by
  unfold titAnc
  rw [List.getD_eq_getElem?_getD, List.getElem?_eq_none (by simpa using h)]
  rfl
theorem titDep_out {j : Nat} (h : 26 ≤ j) : titDep j = [] := by
  unfold titDep
  rw [List.getD_eq_getElem?_getD, List.getElem?_eq_none (by simpa using h)]
  rfl
theorem titDep_anc : ∀ j, ∀ d ∈ titDep j, d ∈ titAnc j := by
  intro j d hd
  by_cases h : j < 26
  · exact (by decide : ∀ j, j < 26 → ∀ d ∈ titDep j, d ∈ titAnc j) j h d hd
  · rw [titDep_out (by omega)] at hd
    cases hd
/-- what each operation of the region leaves -/
def tit2F (b : Nat) (z : It) (k ln lf : Bool) : Nat → Value → List Value → World → Prop
  | 0, u, _, _ => u = .pointer (some ⟨b, 0, none⟩)
  | 1, u, _, _ => u = .int .i64 z.id
  | 2, u, _, _ => u = strL' (idB 105 z.id)
  | 3, u, _, _ => u = .pointer (some ⟨b, 0, none⟩)
  | 4, u, _, _ => u = .int .i64 z.id
  | 5, u, _, _ => u = .bool k
  | 6, u, _, _ => u = .bool k
  | 7, u, _, _ => u = cond k (.pointer (some ⟨b, 4, none⟩)) undef
  | 8, u, _, _ => u = cond k (.int .i64 z.node) undef
  | 9, u, _, _ => u = cond k (.bool ln) undef
  | 10, u, _, _ => u = .bool (k && ln)
  | 11, u, _, _ => u = .bool (k && ln)
  | 12, u, _, _ => u = cond (k && ln) (.pointer (some ⟨b, 5, none⟩)) undef
  | 13, u, _, _ => u = cond (k && ln) (.int .i64 z.frm) undef
  | 14, u, _, _ => u = cond (k && ln) (.bool lf) undef
  | 15, u, _, _ => u = .bool ((k && ln) && lf)
  | 16, u, _, _ => u = strL' (idB 105 z.id)
  | 17, u, _, _ => u = .bool ((k && ln) && lf)
  | _, _, _, _ => True
def tit2Anc (i : Nat) : List Nat := ([[], [0], [0, 1], [], [3], [0, 1, 2, 3, 4], [0, 1, 2, 3, 4, 5], [0, 1, 2, 3, 4, 5, 6], [0, 1, 2, 3, 4, 5, 6, 7], [0, 1, 2, 3, 4, 5, 6, 7, 8], [0, 1, 2, 3, 4, 5, 6, 7, 8, 9], [0, 1, 2, 3, 4, 5, 6, 7, 8, 9, 10], [0, 1, 2, 3, 4, 5, 6, 7, 8, 9, 10, 11], [0, 1, 2, 3, 4, 5, 6, 7, 8, 9, 10, 11, 12], [0, 1, 2, 3, 4, 5, 6, 7, 8, 9, 10, 11, 12, 13], [0, 1, 2, 3, 4, 5, 6, 7, 8, 9, 10, 11, 12, 13, 14], [0, 1, 2, 3, 4, 5, 6, 7, 8, 9, 10, 11], [0, 1, 2, 3, 4, 5, 6, 7, 8, 9, 10, 11, 12, 13, 14, 15, 16]] : List (List Nat)).getD i []
def tit2Need (i : Nat) : List Nat := ([[], [0], [1], [], [3], [4], [5], [6], [7, 6], [8, 6], [6, 9], [10], [11], [12, 11], [13, 11], [11, 14], [2], [15]] : List (List Nat)).getD i []
def tit2Dep (i : Nat) : List Nat := ([[], [], [], [], [], [], [], [], [], [], [], [], [], [], [], [], [], []] : List (List Nat)).getD i []
def tit2Kill (_ _ : Nat) : Bool := false
def tit2Pure (j : Nat) : Bool := !([].contains j)
theorem tit2F_pure {j : Nat} {u : Value} {ds : List Value} {w w' : World} {b : Nat} {z : It} {k ln lf : Bool} (hp : tit2Pure j = true) (h : tit2F b z k ln lf j u ds w) : tit2F b z k ln lf j u ds w' := by
  match j with
  | 0 => exact h
  | 1 => exact h
  | 2 => exact h
  | 3 => exact h
  | 4 => exact h
  | 5 => exact h
  | 6 => exact h
  | 7 => exact h
  | 8 => exact h
  | 9 => exact h
  | 10 => exact h
  | 11 => exact h
  | 12 => exact h
  | 13 => exact h
  | 14 => exact h
  | 15 => exact h
  | 16 => exact h
  | 17 => exact h
  | _ + 18 => trivial
theorem tit2F_mono {j : Nat} {u : Value} {ds : List Value} {w w' : World} {b : Nat} {z : It} {k ln lf : Bool} (_hb : Below w.heap.size w w') (h : tit2F b z k ln lf j u ds w) : tit2F b z k ln lf j u ds w' := by
  match j with
  | 0 => exact h
  | 1 => exact h
  | 2 => exact h
  | 3 => exact h
  | 4 => exact h
  | 5 => exact h
  | 6 => exact h
  | 7 => exact h
  | 8 => exact h
  | 9 => exact h
  | 10 => exact h
  | 11 => exact h
  | 12 => exact h
  | 13 => exact h
  | 14 => exact h
  | 15 => exact h
  | 16 => exact h
  | 17 => exact h
  | _ + 18 => trivial
theorem tit2Keep (x : List Nat) {i : Nat} (h : ((List.range 18).all fun j => tit2Pure j || j == i || tit2Kill i j || (tit2Anc j).contains i || x.contains j) = true) {w w' : World} {b : Nat} {z : It} {k ln lf : Bool} : ∀ j (vs' : Nat → Value), j ≠ i → tit2Kill i j = false → (tit2Anc j).contains i = false → (x.contains j = false) →
    asrt (tit2F b z k ln lf) tit2Dep j vs' w → asrt (tit2F b z k ln lf) tit2Dep j vs' w' := by
  intro j vs' h1 h2 h3 h0 h4
  by_cases hj : j < 18
  · have := List.all_eq_true.1 h j (List.mem_range.2 hj)
    rw [h2, h3, h0] at this
    simp only [Bool.or_false, Bool.or_eq_true, beq_iff_eq] at this
    rcases this with h5 | h5
    · exact tit2F_pure h5 h4
    · exact absurd h5 h1
  · exact tit2F_pure (by unfold tit2Pure; simp) h4
theorem tit2Anc_out {j : Nat} (h : 18 ≤ j) : tit2Anc j = [] := by
  unfold tit2Anc
  rw [List.getD_eq_getElem?_getD, List.getElem?_eq_none (by simpa using h)]
  rfl
theorem tit2Dep_out {j : Nat} (h : 18 ≤ j) : tit2Dep j = [] := by
  unfold tit2Dep
  rw [List.getD_eq_getElem?_getD, List.getElem?_eq_none (by simpa using h)]
  rfl
theorem tit2Dep_anc : ∀ j, ∀ d ∈ tit2Dep j, d ∈ tit2Anc j := by
  intro j d hd
  by_cases h : j < 18
  · exact (by decide : ∀ j, j < 18 → ∀ d ∈ tit2Dep j, d ∈ tit2Anc j) j h d hd
  · rw [tit2Dep_out (by omega)] at hd
    cases hd
set_option maxRecDepth 100000 in
set_option maxHeartbeats 4000000 in
theorem tellItem_any (z : It) (p : Nat) (w : World) (h : Pn w p [] true) (h1 : z.proc.size ≤ 140737488351232) (h2 : z.code.size ≤ 140737488351232) (h3 : z.is < 256) (h4 : z.wait < 256) :
    Calls Tryz.prog 21 #[.agg #[.int .i64 z.id, .int .i64 z.up, .int .u8 z.is, .string z.proc, .int .i64 z.node, .int .i64 z.frm, .int .u8 z.wait, .string z.code], pt p] w fun e w' => e = .returned (.tuple #[strL' (itE z).k, .bool ((knownB z.id && (lessB z.node && lessB z.frm)))]) ∧ But p w w' ∧ Pn w' p (itE z).v ((numB z.up && (numB z.is && (shortB z.proc && (numB (incS z.node) && (numB (incS z.frm) && (numB z.wait && shortB z.code))))))) := by
  have HQ : Hid (IntKind.i64.wrap (z.is : Int) = z.is ∧ IntKind.i64.wrap (z.wait : Int) = z.wait) := Lib.hid ⟨wrap_byte h3, wrap_byte h4⟩
  have hL : z.proc.size ≤ 140737488351232 ∧ z.code.size ≤ 140737488351232 ∧ (txt z.proc).length ≤ z.proc.size + 10 ∧ (numL z.up).length ≤ 10 ∧ (numL z.is).length ≤ 10 ∧ (numL (incS z.node)).length ≤ 10 ∧ (numL (incS z.frm)).length ≤ 10 ∧ (numL z.wait).length ≤ 10 := ⟨h1, h2, txt_len _ h1, numL_len _, numL_len _, numL_len _, numL_len _, numL_len _⟩
  have HL := Lib.hid hL
  have HP0 : Hid (Pn (w.alloc (.cells #[.int .i64 z.id, .int .i64 z.up, .int .u8 z.is, .string z.proc, .int .i64 z.node, .int .i64 z.frm, .int .u8 z.wait, .string z.code] 49)).drew p [] true) := Lib.hid (h.keptB (((Below.refl _ _).alloc (Nat.le_refl _) _).drew))
  have HC := Lib.hid (box_cells (w := w) (p := p) (cs := #[.int .i64 z.id, .int .i64 z.up, .int .u8 z.is, .string z.proc, .int .i64 z.node, .int .i64 z.frm, .int .u8 z.wait, .string z.code]) (t := 49) h.lt)
  have HW : Hid (But p w (w.alloc (.cells #[.int .i64 z.id, .int .i64 z.up, .int .u8 z.is, .string z.proc, .int .i64 z.node, .int .i64 z.frm, .int .u8 z.wait, .string z.code] 49)).drew) := (But.alloc p w _).trans (But.drewN p _ 1)
  clear h hL
  obtain ⟨k, hk⟩ : ∃ k, knownB z.id = k := ⟨_, rfl⟩
  obtain ⟨ln, hln⟩ : ∃ d, decide (z.node < 1099511627776) = d := ⟨_, rfl⟩
  obtain ⟨lf, hlf⟩ : ∃ d, decide (z.frm < 1099511627776) = d := ⟨_, rfl⟩
  rw [show lessB z.node = ln from hln, show lessB z.frm = lf from hlf, hk]
  have HK := Lib.hid hk
  have HLN := Lib.hid hln
  have HLF := Lib.hid hlf
  clear hk hln hlf
  go_enter Tryz.func21, Tryz.ntmps21
  go_upto_region 1 with fail
  refine wp_region_asrt (by kernel_rfl) (But p (w.alloc (.cells #[.int .i64 z.id, .int .i64 z.up, .int .u8 z.is, .string z.proc, .int .i64 z.node, .int .i64 z.frm, .int .u8 z.wait, .string z.code] 49)).drew) (titF p w.heap.size z) titDep titNeed titAnc titKill 26 [some 6, some 7, some 8, some 9, some 10, some 11, some 12, some 13, some 14, some 15, some 16, some 17, some 18, some 19, some 20, some 21, some 22, some 23, some 24, some 25, some 26, some 27, some 28, some 29, some 30, some 31] rfl rfl (by kernel_rfl) titDep_anc (But.refl _ _) (fun j h => titAnc_out h) (fun j h => by
      by_cases e1 : j = 26
      · subst e1; exact HP0.out
      have e3 : 27 ≤ j := by omega
      match j, e3 with
      | _ + 27, _ => trivial) (fun j h => titDep_out h) ⟨?_, ?_, ?_, ?_, ?_, ?_, ?_, ?_, ?_, ?_, ?_, ?_, ?_, ?_, ?_, ?_, ?_, ?_, ?_, ?_, ?_, ?_, ?_, ?_, ?_, ?_, trivial⟩ ?_
  · refine Step.mk (oi := _) rfl [] (fun cs b h => by cases h) (by kernel_rfl) (fun vs W hI hA => ?_)
    simp only [List.map]
    simp only [putR]
    refine SOp.val (v := pt p) (w' := W) (by kernel_rfl) (by go_simp) ⟨hI, upd_self _ _ _, fun _ _ _ _ _ h => h⟩
  · refine Step.mk (oi := _) rfl [] (fun cs b h => by cases h) (by kernel_rfl) (fun vs W hI hA => ?_)
    simp only [List.map]
    simp only [putR]
    refine SOp.val (v := .pointer (some ⟨w.heap.size, 1, none⟩)) (w' := W) (by kernel_rfl) (by go_simp) ⟨hI, upd_self _ _ _, fun _ _ _ _ _ h => h⟩
  · refine Step.mk (oi := _) rfl [(7, 1)] (fun cs b h => by cases h) (by kernel_rfl) (fun vs W hI hA => ?_)
    simp only [List.map]
    have h1 : vs 1 = .pointer (some ⟨w.heap.size, 1, none⟩) := hA 1 (by decide)
    rw [h1]
    have c1 := HC.out W hI 1 _ rfl
    simp only [putR, Act.put, List.setIfInBounds_toArray, List.set_cons_zero, List.set_cons_succ]
    refine SOp.val (v := .int .i64 z.up) (w' := W) (by kernel_rfl) (by go_simp) ⟨hI, upd_self _ _ _, fun _ _ _ _ _ h => h⟩
  · refine Step.mk (oi := _) rfl [(6, 0), (8, 2)] (fun cs b h => by cases h) (by kernel_rfl) (fun vs W hI hA => ?_)
    simp only [List.map]
    have h0 : vs 0 = pt p := hA 0 (by decide)
    have h2 : vs 2 = .int .i64 z.up := hA 2 (by decide)
    rw [h0, h2]
    have hP := hA 26 (by decide)
    simp only [putR, Act.put, List.setIfInBounds_toArray, List.set_cons_zero, List.set_cons_succ]
    refine SOp.enter (f := 18) (args := #[pt p, .int .i64 (z.up)]) (by kernel_rfl) (by go_simp) ((pen_num p [] true (z.up) W hP (by simp)).mono ?_)
    rintro e w1 ⟨rfl, hb, hP1⟩
    refine ⟨pt p, rfl, hI.trans hb, ⟨upd_self _ _ _, hP1⟩, ?_⟩
    intro j vs' a1 a2 a3 a4
    exact titKeep [] (i := 3) (by decide) j vs' a1 a2 a3 (by rfl) a4
  · refine Step.mk (oi := _) rfl [] (fun cs b h => by cases h) (by kernel_rfl) (fun vs W hI hA => ?_)
    simp only [List.map]
    simp only [putR]
    refine SOp.val (v := .pointer (some ⟨w.heap.size, 2, none⟩)) (w' := W) (by kernel_rfl) (by go_simp) ⟨hI, upd_self _ _ _, fun _ _ _ _ _ h => h⟩
  · refine Step.mk (oi := _) rfl [(10, 4)] (fun cs b h => by cases h) (by kernel_rfl) (fun vs W hI hA => ?_)
    simp only [List.map]
    have h4 : vs 4 = .pointer (some ⟨w.heap.size, 2, none⟩) := hA 4 (by decide)
    rw [h4]
    have c2 := HC.out W hI 2 _ rfl
    simp only [putR, Act.put, List.setIfInBounds_toArray, List.set_cons_zero, List.set_cons_succ]
    refine SOp.val (v := .int .u8 z.is) (w' := W) (by kernel_rfl) (by go_simp) ⟨hI, upd_self _ _ _, fun _ _ _ _ _ h => h⟩
  · refine Step.mk (oi := _) rfl [(11, 5)] (fun cs b h => by cases h) (by kernel_rfl) (fun vs W hI hA => ?_)
    simp only [List.map]
    have h5 : vs 5 = .int .u8 z.is := hA 5 (by decide)
    rw [h5]
    simp only [putR, Act.put, List.setIfInBounds_toArray, List.set_cons_zero, List.set_cons_succ]
    refine SOp.val (v := .int .i64 z.is) (w' := W) (by kernel_rfl) (by go_simp; exact HQ.out.1) ⟨hI, upd_self _ _ _, fun _ _ _ _ _ h => h⟩
  · refine Step.mk (oi := _) rfl [(9, 3), (12, 6)] (fun cs b h => by cases h) (by kernel_rfl) (fun vs W hI hA => ?_)
    simp only [List.map]
    have h6 : vs 6 = .int .i64 z.is := hA 6 (by decide)
    rw [h6]
    obtain ⟨e0, hP⟩ := hA 3 (by decide)
    rw [e0]
    simp only [putR, Act.put, List.setIfInBounds_toArray, List.set_cons_zero, List.set_cons_succ]
    refine SOp.enter (f := 18) (args := #[pt p, .int .i64 ((z.is : Int))]) (by kernel_rfl) (by go_simp) ((pen_num p ([] ++ numL (z.up)) (true && numB (z.up)) ((z.is : Int)) W hP (by simp only [List.length_append, List.length_nil]; have := HL.out; omega)).mono ?_)
    rintro e w1 ⟨rfl, hb, hP1⟩
    refine ⟨pt p, rfl, hI.trans hb, ⟨upd_self _ _ _, hP1⟩, ?_⟩
    intro j vs' a1 a2 a3 a4
    exact titKeep [] (i := 7) (by decide) j vs' a1 a2 a3 (by rfl) a4
  · refine Step.mk (oi := _) rfl [] (fun cs b h => by cases h) (by kernel_rfl) (fun vs W hI hA => ?_)
    simp only [List.map]
    simp only [putR]
    refine SOp.val (v := .pointer (some ⟨w.heap.size, 3, none⟩)) (w' := W) (by kernel_rfl) (by go_simp) ⟨hI, upd_self _ _ _, fun _ _ _ _ _ h => h⟩
  · refine Step.mk (oi := _) rfl [(14, 8)] (fun cs b h => by cases h) (by kernel_rfl) (fun vs W hI hA => ?_)
    simp only [List.map]
    have h8 : vs 8 = .pointer (some ⟨w.heap.size, 3, none⟩) := hA 8 (by decide)
    rw [h8]
    have c3 := HC.out W hI 3 _ rfl
    simp only [putR, Act.put, List.setIfInBounds_toArray, List.set_cons_zero, List.set_cons_succ]
    refine SOp.val (v := .string z.proc) (w' := W) (by kernel_rfl) (by go_simp) ⟨hI, upd_self _ _ _, fun _ _ _ _ _ h => h⟩
  · refine Step.mk (oi := _) rfl [(13, 7), (15, 9)] (fun cs b h => by cases h) (by kernel_rfl) (fun vs W hI hA => ?_)
    simp only [List.map]
    have h9 : vs 9 = .string z.proc := hA 9 (by decide)
    rw [h9]
    obtain ⟨e0, hP⟩ := hA 7 (by decide)
    rw [e0]
    simp only [putR, Act.put, List.setIfInBounds_toArray, List.set_cons_zero, List.set_cons_succ]
    refine SOp.enter (f := 40) (args := #[pt p, .string z.proc]) (by kernel_rfl) (by go_simp) ((pen_text p (([] ++ numL (z.up)) ++ numL ((z.is : Int))) ((true && numB (z.up)) && numB ((z.is : Int))) z.proc W hP (by simp only [List.length_append, List.length_nil]; have := HL.out; omega) (by have := HL.out; omega)).mono ?_)
    rintro e w1 ⟨rfl, hb, hP1⟩
    refine ⟨pt p, rfl, hI.trans hb, ⟨upd_self _ _ _, hP1⟩, ?_⟩
    intro j vs' a1 a2 a3 a4
    exact titKeep [] (i := 10) (by decide) j vs' a1 a2 a3 (by rfl) a4
  · refine Step.mk (oi := _) rfl [] (fun cs b h => by cases h) (by kernel_rfl) (fun vs W hI hA => ?_)
    simp only [List.map]
    simp only [putR]
    refine SOp.val (v := .pointer (some ⟨w.heap.size, 4, none⟩)) (w' := W) (by kernel_rfl) (by go_simp) ⟨hI, upd_self _ _ _, fun _ _ _ _ _ h => h⟩
  · refine Step.mk (oi := _) rfl [(17, 11)] (fun cs b h => by cases h) (by kernel_rfl) (fun vs W hI hA => ?_)
    simp only [List.map]
    have h11 : vs 11 = .pointer (some ⟨w.heap.size, 4, none⟩) := hA 11 (by decide)
    rw [h11]
    have c4 := HC.out W hI 4 _ rfl
    simp only [putR, Act.put, List.setIfInBounds_toArray, List.set_cons_zero, List.set_cons_succ]
    refine SOp.val (v := .int .i64 z.node) (w' := W) (by kernel_rfl) (by go_simp) ⟨hI, upd_self _ _ _, fun _ _ _ _ _ h => h⟩
  · refine Step.mk (oi := _) rfl [(18, 12)] (fun cs b h => by cases h) (by kernel_rfl) (fun vs W hI hA => ?_)
    simp only [List.map]
    have h12 : vs 12 = .int .i64 z.node := hA 12 (by decide)
    rw [h12]
    simp only [putR, Act.put, List.setIfInBounds_toArray, List.set_cons_zero, List.set_cons_succ]
    refine SOp.val (v := .int .i64 (incS z.node)) (w' := W) (by kernel_rfl) (by go_simp <;> first | rfl | (unfold incS; rfl)) ⟨hI, upd_self _ _ _, fun _ _ _ _ _ h => h⟩
  · refine Step.mk (oi := _) rfl [(16, 10), (19, 13)] (fun cs b h => by cases h) (by kernel_rfl) (fun vs W hI hA => ?_)
    simp only [List.map]
    have h13 : vs 13 = .int .i64 (incS z.node) := hA 13 (by decide)
    rw [h13]
    obtain ⟨e0, hP⟩ := hA 10 (by decide)
    rw [e0]
    simp only [putR, Act.put, List.setIfInBounds_toArray, List.set_cons_zero, List.set_cons_succ]
    refine SOp.enter (f := 18) (args := #[pt p, .int .i64 (incS z.node)]) (by kernel_rfl) (by go_simp) ((pen_num p ((([] ++ numL (z.up)) ++ numL ((z.is : Int))) ++ txt z.proc) (((true && numB (z.up)) && numB ((z.is : Int))) && decide (z.proc.size ≤ 13)) (incS z.node) W hP (by simp only [List.length_append, List.length_nil]; have := HL.out; omega)).mono ?_)
    rintro e w1 ⟨rfl, hb, hP1⟩
    refine ⟨pt p, rfl, hI.trans hb, ⟨upd_self _ _ _, hP1⟩, ?_⟩
    intro j vs' a1 a2 a3 a4
    exact titKeep [] (i := 14) (by decide) j vs' a1 a2 a3 (by rfl) a4
  · refine Step.mk (oi := _) rfl [] (fun cs b h => by cases h) (by kernel_rfl) (fun vs W hI hA => ?_)
    simp only [List.map]
    simp only [putR]
    refine SOp.val (v := .pointer (some ⟨w.heap.size, 5, none⟩)) (w' := W) (by kernel_rfl) (by go_simp) ⟨hI, upd_self _ _ _, fun _ _ _ _ _ h => h⟩
  · refine Step.mk (oi := _) rfl [(21, 15)] (fun cs b h => by cases h) (by kernel_rfl) (fun vs W hI hA => ?_)
    simp only [List.map]
    have h15 : vs 15 = .pointer (some ⟨w.heap.size, 5, none⟩) := hA 15 (by decide)
    rw [h15]
    have c5 := HC.out W hI 5 _ rfl
    simp only [putR, Act.put, List.setIfInBounds_toArray, List.set_cons_zero, List.set_cons_succ]
    refine SOp.val (v := .int .i64 z.frm) (w' := W) (by kernel_rfl) (by go_simp) ⟨hI, upd_self _ _ _, fun _ _ _ _ _ h => h⟩
  · refine Step.mk (oi := _) rfl [(22, 16)] (fun cs b h => by cases h) (by kernel_rfl) (fun vs W hI hA => ?_)
    simp only [List.map]
    have h16 : vs 16 = .int .i64 z.frm := hA 16 (by decide)
    rw [h16]
    simp only [putR, Act.put, List.setIfInBounds_toArray, List.set_cons_zero, List.set_cons_succ]
    refine SOp.val (v := .int .i64 (incS z.frm)) (w' := W) (by kernel_rfl) (by go_simp <;> first | rfl | (unfold incS; rfl)) ⟨hI, upd_self _ _ _, fun _ _ _ _ _ h => h⟩
  · refine Step.mk (oi := _) rfl [(20, 14), (23, 17)] (fun cs b h => by cases h) (by kernel_rfl) (fun vs W hI hA => ?_)
    simp only [List.map]
    have h17 : vs 17 = .int .i64 (incS z.frm) := hA 17 (by decide)
    rw [h17]
    obtain ⟨e0, hP⟩ := hA 14 (by decide)
    rw [e0]
    simp only [putR, Act.put, List.setIfInBounds_toArray, List.set_cons_zero, List.set_cons_succ]
    refine SOp.enter (f := 18) (args := #[pt p, .int .i64 (incS z.frm)]) (by kernel_rfl) (by go_simp) ((pen_num p (((([] ++ numL (z.up)) ++ numL ((z.is : Int))) ++ txt z.proc) ++ numL (incS z.node)) ((((true && numB (z.up)) && numB ((z.is : Int))) && decide (z.proc.size ≤ 13)) && numB (incS z.node)) (incS z.frm) W hP (by simp only [List.length_append, List.length_nil]; have := HL.out; omega)).mono ?_)
    rintro e w1 ⟨rfl, hb, hP1⟩
    refine ⟨pt p, rfl, hI.trans hb, ⟨upd_self _ _ _, hP1⟩, ?_⟩
    intro j vs' a1 a2 a3 a4
    exact titKeep [] (i := 18) (by decide) j vs' a1 a2 a3 (by rfl) a4
  · refine Step.mk (oi := _) rfl [] (fun cs b h => by cases h) (by kernel_rfl) (fun vs W hI hA => ?_)
    simp only [List.map]
    simp only [putR]
    refine SOp.val (v := .pointer (some ⟨w.heap.size, 6, none⟩)) (w' := W) (by kernel_rfl) (by go_simp) ⟨hI, upd_self _ _ _, fun _ _ _ _ _ h => h⟩
  · refine Step.mk (oi := _) rfl [(25, 19)] (fun cs b h => by cases h) (by kernel_rfl) (fun vs W hI hA => ?_)
    simp only [List.map]
    have h19 : vs 19 = .pointer (some ⟨w.heap.size, 6, none⟩) := hA 19 (by decide)
    rw [h19]
    have c6 := HC.out W hI 6 _ rfl
    simp only [putR, Act.put, List.setIfInBounds_toArray, List.set_cons_zero, List.set_cons_succ]
    refine SOp.val (v := .int .u8 z.wait) (w' := W) (by kernel_rfl) (by go_simp) ⟨hI, upd_self _ _ _, fun _ _ _ _ _ h => h⟩
  · refine Step.mk (oi := _) rfl [(26, 20)] (fun cs b h => by cases h) (by kernel_rfl) (fun vs W hI hA => ?_)
    simp only [List.map]
    have h20 : vs 20 = .int .u8 z.wait := hA 20 (by decide)
    rw [h20]
    simp only [putR, Act.put, List.setIfInBounds_toArray, List.set_cons_zero, List.set_cons_succ]
    refine SOp.val (v := .int .i64 z.wait) (w' := W) (by kernel_rfl) (by go_simp; exact HQ.out.2) ⟨hI, upd_self _ _ _, fun _ _ _ _ _ h => h⟩
  · refine Step.mk (oi := _) rfl [(24, 18), (27, 21)] (fun cs b h => by cases h) (by kernel_rfl) (fun vs W hI hA => ?_)
    simp only [List.map]
    have h21 : vs 21 = .int .i64 z.wait := hA 21 (by decide)
    rw [h21]
    obtain ⟨e0, hP⟩ := hA 18 (by decide)
    rw [e0]
    simp only [putR, Act.put, List.setIfInBounds_toArray, List.set_cons_zero, List.set_cons_succ]
    refine SOp.enter (f := 18) (args := #[pt p, .int .i64 ((z.wait : Int))]) (by kernel_rfl) (by go_simp) ((pen_num p ((((([] ++ numL (z.up)) ++ numL ((z.is : Int))) ++ txt z.proc) ++ numL (incS z.node)) ++ numL (incS z.frm)) (((((true && numB (z.up)) && numB ((z.is : Int))) && decide (z.proc.size ≤ 13)) && numB (incS z.node)) && numB (incS z.frm)) ((z.wait : Int)) W hP (by simp only [List.length_append, List.length_nil]; have := HL.out; omega)).mono ?_)
    rintro e w1 ⟨rfl, hb, hP1⟩
    refine ⟨pt p, rfl, hI.trans hb, ⟨upd_self _ _ _, hP1⟩, ?_⟩
    intro j vs' a1 a2 a3 a4
    exact titKeep [] (i := 22) (by decide) j vs' a1 a2 a3 (by rfl) a4
  · refine Step.mk (oi := _) rfl [] (fun cs b h => by cases h) (by kernel_rfl) (fun vs W hI hA => ?_)
    simp only [List.map]
    simp only [putR]
    refine SOp.val (v := .pointer (some ⟨w.heap.size, 7, none⟩)) (w' := W) (by kernel_rfl) (by go_simp) ⟨hI, upd_self _ _ _, fun _ _ _ _ _ h => h⟩
  · refine Step.mk (oi := _) rfl [(29, 23)] (fun cs b h => by cases h) (by kernel_rfl) (fun vs W hI hA => ?_)
    simp only [List.map]
    have h23 : vs 23 = .pointer (some ⟨w.heap.size, 7, none⟩) := hA 23 (by decide)
    rw [h23]
    have c7 := HC.out W hI 7 _ rfl
    simp only [putR, Act.put, List.setIfInBounds_toArray, List.set_cons_zero, List.set_cons_succ]
    refine SOp.val (v := .string z.code) (w' := W) (by kernel_rfl) (by go_simp) ⟨hI, upd_self _ _ _, fun _ _ _ _ _ h => h⟩
  · refine Step.mk (oi := _) rfl [(28, 22), (30, 24)] (fun cs b h => by cases h) (by kernel_rfl) (fun vs W hI hA => ?_)
    simp only [List.map]
    have h24 : vs 24 = .string z.code := hA 24 (by decide)
    rw [h24]
    obtain ⟨e0, hP⟩ := hA 22 (by decide)
    rw [e0]
    simp only [putR, Act.put, List.setIfInBounds_toArray, List.set_cons_zero, List.set_cons_succ]
    refine SOp.enter (f := 40) (args := #[pt p, .string z.code]) (by kernel_rfl) (by go_simp) ((pen_text p (((((([] ++ numL (z.up)) ++ numL ((z.is : Int))) ++ txt z.proc) ++ numL (incS z.node)) ++ numL (incS z.frm)) ++ numL ((z.wait : Int))) ((((((true && numB (z.up)) && numB ((z.is : Int))) && decide (z.proc.size ≤ 13)) && numB (incS z.node)) && numB (incS z.frm)) && numB ((z.wait : Int))) z.code W hP (by simp only [List.length_append, List.length_nil]; have := HL.out; omega) (by have := HL.out; omega)).mono ?_)
    rintro e w1 ⟨rfl, hb, hP1⟩
    refine ⟨pt p, rfl, hI.trans hb, ⟨upd_self _ _ _, hP1⟩, ?_⟩
    intro j vs' a1 a2 a3 a4
    exact titKeep [] (i := 25) (by decide) j vs' a1 a2 a3 (by rfl) a4
  · intro vs V hI hφ
    obtain ⟨e0, hP⟩ := hφ 25 (fun k _ => by simp [titKill])
    clear hφ e0
    simp only [putAll, Act.put, List.setIfInBounds_toArray, List.set_cons_zero, List.set_cons_succ]
    have HB2 := Lib.hid hI
    have HP2 := Lib.hid hP
    clear hI hP
    go_upto_region 2 with fail
    refine wp_region_asrt (by kernel_rfl) (PtJ p (w.alloc (.cells #[.int .i64 z.id, .int .i64 z.up, .int .u8 z.is, .string z.proc, .int .i64 z.node, .int .i64 z.frm, .int .u8 z.wait, .string z.code] 49)).drew ((((((([] ++ numL (z.up)) ++ numL ((z.is : Int))) ++ txt z.proc) ++ numL (incS z.node)) ++ numL (incS z.frm)) ++ numL ((z.wait : Int))) ++ txt z.code) (((((((true && numB (z.up)) && numB ((z.is : Int))) && decide (z.proc.size ≤ 13)) && numB (incS z.node)) && numB (incS z.frm)) && numB ((z.wait : Int))) && decide (z.code.size ≤ 13))) (tit2F w.heap.size z k ln lf) tit2Dep tit2Need tit2Anc tit2Kill 18 [some 32, some 33, some 34, some 35, some 36, some 37, some 38, some 39, some 40, some 41, some 42, some 43, some 44, some 45, some 46, some 47, some 4, some 5] rfl rfl (by kernel_rfl) tit2Dep_anc ⟨HB2.out.trans (But.drewN p V 1), HP2.out⟩ (fun j h => tit2Anc_out h) (fun j h => by
        match j, h with
        | _ + 18, _ => trivial) (fun j h => tit2Dep_out h) ⟨?_, ?_, ?_, ?_, ?_, ?_, ?_, ?_, ?_, ?_, ?_, ?_, ?_, ?_, ?_, ?_, ?_, ?_, trivial⟩ ?_
    · refine Step.mk (oi := _) rfl [] (fun cs b h => by cases h) (by kernel_rfl) (fun vs W hI hA => ?_)
      simp only [List.map]
      simp only [putR]
      refine SOp.val (v := .pointer (some ⟨w.heap.size, 0, none⟩)) (w' := W) (by kernel_rfl) (by go_simp) ⟨hI, upd_self _ _ _, fun _ _ _ _ _ h => h⟩
    · refine Step.mk (oi := _) rfl [(32, 0)] (fun cs b h => by cases h) (by kernel_rfl) (fun vs W hI hA => ?_)
      simp only [List.map]
      have h0 : vs 0 = .pointer (some ⟨w.heap.size, 0, none⟩) := hA 0 (by decide)
      rw [h0]
      have c0 := HC.out W hI.1 0 _ rfl
      simp only [putR, Act.put, List.setIfInBounds_toArray, List.set_cons_zero, List.set_cons_succ]
      refine SOp.val (v := .int .i64 z.id) (w' := W) (by kernel_rfl) (by go_simp) ⟨hI, upd_self _ _ _, fun _ _ _ _ _ h => h⟩
    · refine Step.mk (oi := _) rfl [(33, 1)] (fun cs b h => by cases h) (by kernel_rfl) (fun vs W hI hA => ?_)
      simp only [List.map]
      have h1 : vs 1 = .int .i64 z.id := hA 1 (by decide)
      rw [h1]
      simp only [putR, Act.put, List.setIfInBounds_toArray, List.set_cons_zero, List.set_cons_succ]
      refine SOp.enter (f := 41) (args := #[.int .u8 105, .int .i64 z.id]) (by kernel_rfl) (by go_simp) ((id_any 105 z.id W).mono ?_)
      rintro e w1 ⟨rfl, hb⟩
      exact ⟨strL' (idB 105 z.id), rfl, ⟨hI.1.trans (But.of_below hb), hI.2.keptB hb⟩, upd_self _ _ _, fun _ _ _ _ _ h => tit2F_mono hb h⟩
    · refine Step.mk (oi := _) rfl [] (fun cs b h => by cases h) (by kernel_rfl) (fun vs W hI hA => ?_)
      simp only [List.map]
      simp only [putR]
      refine SOp.val (v := .pointer (some ⟨w.heap.size, 0, none⟩)) (w' := W) (by kernel_rfl) (by go_simp) ⟨hI, upd_self _ _ _, fun _ _ _ _ _ h => h⟩
    · refine Step.mk (oi := _) rfl [(35, 3)] (fun cs b h => by cases h) (by kernel_rfl) (fun vs W hI hA => ?_)
      simp only [List.map]
      have h3 : vs 3 = .pointer (some ⟨w.heap.size, 0, none⟩) := hA 3 (by decide)
      rw [h3]
      have c0 := HC.out W hI.1 0 _ rfl
      simp only [putR, Act.put, List.setIfInBounds_toArray, List.set_cons_zero, List.set_cons_succ]
      refine SOp.val (v := .int .i64 z.id) (w' := W) (by kernel_rfl) (by go_simp) ⟨hI, upd_self _ _ _, fun _ _ _ _ _ h => h⟩
    · refine Step.mk (oi := _) rfl [(36, 4)] (fun cs b h => by cases h) (by kernel_rfl) (fun vs W hI hA => ?_)
      simp only [List.map]
      have h4 : vs 4 = .int .i64 z.id := hA 4 (by decide)
      rw [h4]
      simp only [putR, Act.put, List.setIfInBounds_toArray, List.set_cons_zero, List.set_cons_succ]
      refine SOp.enter (f := 42) (args := #[.int .i64 z.id]) (by kernel_rfl) (by go_simp) ((known_k W HK.out).mono ?_)
      rintro e w1 ⟨rfl, hb⟩
      exact ⟨.bool k, rfl, ⟨hI.1.trans (But.of_below hb), hI.2.keptB hb⟩, upd_self _ _ _, fun _ _ _ _ _ h => tit2F_mono hb h⟩
    · refine Step.mk (oi := _) rfl [(37, 5)] (fun cs b h => by cases h) (by kernel_rfl) (fun vs W hI hA => ?_)
      simp only [List.map]
      have h5 : vs 5 = .bool k := hA 5 (by decide)
      rw [h5]
      simp only [putR, Act.put, List.setIfInBounds_toArray, List.set_cons_zero, List.set_cons_succ]
      refine SOp.val (v := .bool k) (w' := W) (by kernel_rfl) (by go_simp) ⟨hI, upd_self _ _ _, fun _ _ _ _ _ h => h⟩
    · refine Step.mk (oi := _) rfl [(38, 6)] (fun cs b h => by cases h) (by kernel_rfl) (fun vs W hI hA => ?_)
      simp only [List.map]
      have h6 : vs 6 = .bool k := hA 6 (by decide)
      rw [h6]
      cases k
      · simp only [putR, Act.put, List.setIfInBounds_toArray, List.set_cons_zero, List.set_cons_succ]
        exact SOp.skipped (by kernel_rfl) ⟨hI, upd_self _ _ _, fun _ _ _ _ _ h => h⟩
      · skip
        try simp only [cond]
        simp only [putR, Act.put, List.setIfInBounds_toArray, List.set_cons_zero, List.set_cons_succ]
        refine SOp.val (v := .pointer (some ⟨w.heap.size, 4, none⟩)) (w' := W) (by kernel_rfl) (by go_simp) ⟨hI, upd_self _ _ _, fun _ _ _ _ _ h => h⟩
    · refine Step.mk (oi := _) rfl [(39, 7), (38, 6)] (fun cs b h => by cases h) (by kernel_rfl) (fun vs W hI hA => ?_)
      simp only [List.map]
      have h7 : vs 7 = cond k (.pointer (some ⟨w.heap.size, 4, none⟩)) undef := hA 7 (by decide)
      have h6 : vs 6 = .bool k := hA 6 (by decide)
      rw [h7, h6]
      have c4 := HC.out W hI.1 4 _ rfl
      cases k
      · simp only [putR, Act.put, List.setIfInBounds_toArray, List.set_cons_zero, List.set_cons_succ]
        exact SOp.skipped (by kernel_rfl) ⟨hI, upd_self _ _ _, fun _ _ _ _ _ h => h⟩
      · skip
        try simp only [cond]
        simp only [putR, Act.put, List.setIfInBounds_toArray, List.set_cons_zero, List.set_cons_succ]
        refine SOp.val (v := .int .i64 z.node) (w' := W) (by kernel_rfl) (by go_simp) ⟨hI, upd_self _ _ _, fun _ _ _ _ _ h => h⟩
    · refine Step.mk (oi := _) rfl [(40, 8), (38, 6)] (fun cs b h => by cases h) (by kernel_rfl) (fun vs W hI hA => ?_)
      simp only [List.map]
      have h8 : vs 8 = cond k (.int .i64 z.node) undef := hA 8 (by decide)
      have h6 : vs 6 = .bool k := hA 6 (by decide)
      rw [h8, h6]
      cases k
      · simp only [putR, Act.put, List.setIfInBounds_toArray, List.set_cons_zero, List.set_cons_succ]
        exact SOp.skipped (by kernel_rfl) ⟨hI, upd_self _ _ _, fun _ _ _ _ _ h => h⟩
      · skip
        try simp only [cond]
        simp only [putR, Act.put, List.setIfInBounds_toArray, List.set_cons_zero, List.set_cons_succ]
        refine SOp.val (v := .bool ln) (w' := W) (by kernel_rfl) (by go_simp <;> first | rw [HLN.out] | exact congrArg _ HLN.out) ⟨hI, upd_self _ _ _, fun _ _ _ _ _ h => h⟩
    · refine Step.mk (oi := _) rfl [(38, 6), (41, 9)] (fun cs b h => by cases h) (by kernel_rfl) (fun vs W hI hA => ?_)
      simp only [List.map]
      have h6 : vs 6 = .bool k := hA 6 (by decide)
      have h9 : vs 9 = cond k (.bool ln) undef := hA 9 (by decide)
      rw [h6, h9]
      cases k
      · try simp only [cond]
        simp only [putR, Act.put, List.setIfInBounds_toArray, List.set_cons_zero, List.set_cons_succ]
        refine SOp.val (v := .bool false) (w' := W) (by kernel_rfl) (by go_simp) ⟨hI, upd_self _ _ _, fun _ _ _ _ _ h => h⟩
      · skip
        try simp only [cond]
        simp only [putR, Act.put, List.setIfInBounds_toArray, List.set_cons_zero, List.set_cons_succ]
        refine SOp.val (v := .bool ln) (w' := W) (by kernel_rfl) (by go_simp) ⟨hI, upd_self _ _ _, fun _ _ _ _ _ h => h⟩
    · refine Step.mk (oi := _) rfl [(42, 10)] (fun cs b h => by cases h) (by kernel_rfl) (fun vs W hI hA => ?_)
      simp only [List.map]
      have h10 : vs 10 = .bool (k && ln) := hA 10 (by decide)
      rw [h10]
      simp only [putR, Act.put, List.setIfInBounds_toArray, List.set_cons_zero, List.set_cons_succ]
      refine SOp.val (v := .bool (k && ln)) (w' := W) (by kernel_rfl) (by go_simp) ⟨hI, upd_self _ _ _, fun _ _ _ _ _ h => h⟩
    · refine Step.mk (oi := _) rfl [(43, 11)] (fun cs b h => by cases h) (by kernel_rfl) (fun vs W hI hA => ?_)
      simp only [List.map]
      have h11 : vs 11 = .bool (k && ln) := hA 11 (by decide)
      rw [h11]
      cases k
      · simp only [putR, Act.put, List.setIfInBounds_toArray, List.set_cons_zero, List.set_cons_succ]
        exact SOp.skipped (by kernel_rfl) ⟨hI, upd_self _ _ _, fun _ _ _ _ _ h => h⟩
      · skip
        cases ln
        · simp only [putR, Act.put, List.setIfInBounds_toArray, List.set_cons_zero, List.set_cons_succ]
          exact SOp.skipped (by kernel_rfl) ⟨hI, upd_self _ _ _, fun _ _ _ _ _ h => h⟩
        · skip
          try simp only [cond]
          simp only [putR, Act.put, List.setIfInBounds_toArray, List.set_cons_zero, List.set_cons_succ]
          refine SOp.val (v := .pointer (some ⟨w.heap.size, 5, none⟩)) (w' := W) (by kernel_rfl) (by go_simp) ⟨hI, upd_self _ _ _, fun _ _ _ _ _ h => h⟩
    · refine Step.mk (oi := _) rfl [(44, 12), (43, 11)] (fun cs b h => by cases h) (by kernel_rfl) (fun vs W hI hA => ?_)
      simp only [List.map]
      have h12 : vs 12 = cond (k && ln) (.pointer (some ⟨w.heap.size, 5, none⟩)) undef := hA 12 (by decide)
      have h11 : vs 11 = .bool (k && ln) := hA 11 (by decide)
      rw [h12, h11]
      have c5 := HC.out W hI.1 5 _ rfl
      cases k
      · simp only [putR, Act.put, List.setIfInBounds_toArray, List.set_cons_zero, List.set_cons_succ]
        exact SOp.skipped (by kernel_rfl) ⟨hI, upd_self _ _ _, fun _ _ _ _ _ h => h⟩
      · skip
        cases ln
        · simp only [putR, Act.put, List.setIfInBounds_toArray, List.set_cons_zero, List.set_cons_succ]
          exact SOp.skipped (by kernel_rfl) ⟨hI, upd_self _ _ _, fun _ _ _ _ _ h => h⟩
        · skip
          try simp only [cond]
          simp only [putR, Act.put, List.setIfInBounds_toArray, List.set_cons_zero, List.set_cons_succ]
          refine SOp.val (v := .int .i64 z.frm) (w' := W) (by kernel_rfl) (by go_simp) ⟨hI, upd_self _ _ _, fun _ _ _ _ _ h => h⟩
    · refine Step.mk (oi := _) rfl [(45, 13), (43, 11)] (fun cs b h => by cases h) (by kernel_rfl) (fun vs W hI hA => ?_)
      simp only [List.map]
      have h13 : vs 13 = cond (k && ln) (.int .i64 z.frm) undef := hA 13 (by decide)
      have h11 : vs 11 = .bool (k && ln) := hA 11 (by decide)
      rw [h13, h11]
      cases k
      · simp only [putR, Act.put, List.setIfInBounds_toArray, List.set_cons_zero, List.set_cons_succ]
        exact SOp.skipped (by kernel_rfl) ⟨hI, upd_self _ _ _, fun _ _ _ _ _ h => h⟩
      · skip
        cases ln
        · simp only [putR, Act.put, List.setIfInBounds_toArray, List.set_cons_zero, List.set_cons_succ]
          exact SOp.skipped (by kernel_rfl) ⟨hI, upd_self _ _ _, fun _ _ _ _ _ h => h⟩
        · skip
          try simp only [cond]
          simp only [putR, Act.put, List.setIfInBounds_toArray, List.set_cons_zero, List.set_cons_succ]
          refine SOp.val (v := .bool lf) (w' := W) (by kernel_rfl) (by go_simp <;> first | rw [HLF.out] | exact congrArg _ HLF.out) ⟨hI, upd_self _ _ _, fun _ _ _ _ _ h => h⟩
    · refine Step.mk (oi := _) rfl [(43, 11), (46, 14)] (fun cs b h => by cases h) (by kernel_rfl) (fun vs W hI hA => ?_)
      simp only [List.map]
      have h11 : vs 11 = .bool (k && ln) := hA 11 (by decide)
      have h14 : vs 14 = cond (k && ln) (.bool lf) undef := hA 14 (by decide)
      rw [h11, h14]
      cases k
      · try simp only [cond]
        simp only [putR, Act.put, List.setIfInBounds_toArray, List.set_cons_zero, List.set_cons_succ]
        refine SOp.val (v := .bool false) (w' := W) (by kernel_rfl) (by go_simp) ⟨hI, upd_self _ _ _, fun _ _ _ _ _ h => h⟩
      · skip
        cases ln
        · try simp only [cond]
          simp only [putR, Act.put, List.setIfInBounds_toArray, List.set_cons_zero, List.set_cons_succ]
          refine SOp.val (v := .bool false) (w' := W) (by kernel_rfl) (by go_simp) ⟨hI, upd_self _ _ _, fun _ _ _ _ _ h => h⟩
        · skip
          try simp only [cond]
          simp only [putR, Act.put, List.setIfInBounds_toArray, List.set_cons_zero, List.set_cons_succ]
          refine SOp.val (v := .bool lf) (w' := W) (by kernel_rfl) (by go_simp) ⟨hI, upd_self _ _ _, fun _ _ _ _ _ h => h⟩
    · refine Step.mk (oi := _) rfl [(34, 2)] (fun cs b h => by cases h) (by kernel_rfl) (fun vs W hI hA => ?_)
      simp only [List.map]
      have h2 : vs 2 = strL' (idB 105 z.id) := hA 2 (by decide)
      rw [h2]
      simp only [putR, Act.put, List.setIfInBounds_toArray, List.set_cons_zero, List.set_cons_succ]
      refine SOp.val (v := strL' (idB 105 z.id)) (w' := W) (by kernel_rfl) (by go_simp) ⟨hI, upd_self _ _ _, fun _ _ _ _ _ h => h⟩
    · refine Step.mk (oi := _) rfl [(47, 15)] (fun cs b h => by cases h) (by kernel_rfl) (fun vs W hI hA => ?_)
      simp only [List.map]
      have h15 : vs 15 = .bool ((k && ln) && lf) := hA 15 (by decide)
      rw [h15]
      simp only [putR, Act.put, List.setIfInBounds_toArray, List.set_cons_zero, List.set_cons_succ]
      refine SOp.val (v := .bool ((k && ln) && lf)) (w' := W) (by kernel_rfl) (by go_simp) ⟨hI, upd_self _ _ _, fun _ _ _ _ _ h => h⟩
    · intro vs2 V2 hI2 hφ2
      have q4 : vs2 16 = strL' (idB 105 z.id) := hφ2 16 (fun k _ => by rfl)
      have q5 : vs2 17 = .bool ((k && ln) && lf) := hφ2 17 (fun k _ => by rfl)
      clear hφ2
      simp only [putAll, Act.put, List.setIfInBounds_toArray, List.set_cons_zero, List.set_cons_succ]
      rw [q4, q5]
      have HI2 := Lib.hid hI2
      clear hI2 q4 q5
      go_wp2
      go_ret2
      refine ⟨by show Ending.returned (.tuple #[strL' (idB 105 z.id), .bool ((k && ln) && lf)]) = _; rw [Bool.and_assoc]; rfl, HW.out.trans HI2.out.1, ?_⟩
      have := HI2.out.2
      simpa only [itE, List.nil_append, List.append_assoc, Bool.true_and, Bool.and_assoc, shortB] using this
theorem cl_ok (sc : Int) (n : Nat) : decide (0 ≤ sc ∧ sc ≤ 1099511627776 ∧ n ≤ 13) = ((decide (0 ≤ sc) && decide (sc ≤ 1099511627776)) && decide ((n : Int) ≤ 13)) := by
  by_cases a : 0 ≤ sc <;> by_cases b : sc ≤ 1099511627776 <;> by_cases c : n ≤ 13 <;> simp [a, b, c] <;> omega
theorem key_app (l : List UInt8) (t : ByteArray) : (⟨l.toArray⟩ : ByteArray) ++ t = ⟨(l ++ t.data.toList).toArray⟩ := by
  rw [append_cat]
  exact congrArg ByteArray.mk (by simp)

/-- what each operation of the region leaves -/
def tce2F (b : Nat) (z : Cl) (s0 s1 s2 : Bool) : Nat → Value → List Value → World → Prop
  | 0, u, _, _ => u = .pointer (some ⟨b, 0, none⟩)
  | 1, u, _, _ => u = .int .i64 z.sc
  | 2, u, _, _ => u = strL' (idB 118 z.sc)
  | 3, u, _, _ => u = .pointer (some ⟨b, 1, none⟩)
  | 4, u, _, _ => u = .string z.nm
  | 5, u, _, _ => u = strL' (idB 118 z.sc ++ z.nm.data.toList)
  | 6, u, _, _ => u = .pointer (some ⟨b, 0, none⟩)
  | 7, u, _, _ => u = .int .i64 z.sc
  | 8, u, _, _ => u = .bool s0
  | 9, u, _, _ => u = .bool s0
  | 10, u, _, _ => u = cond s0 (.pointer (some ⟨b, 0, none⟩)) undef
  | 11, u, _, _ => u = cond s0 (.int .i64 z.sc) undef
  | 12, u, _, _ => u = cond s0 (.bool s1) undef
  | 13, u, _, _ => u = .bool (s0 && s1)
  | 14, u, _, _ => u = .bool (s0 && s1)
  | 15, u, _, _ => u = cond (s0 && s1) (.pointer (some ⟨b, 1, none⟩)) undef
  | 16, u, _, _ => u = cond (s0 && s1) (.string z.nm) undef
  | 17, u, _, _ => u = cond (s0 && s1) (.int .i64 z.nm.size) undef
  | 18, u, _, _ => u = cond (s0 && s1) (.bool s2) undef
  | 19, u, _, _ => u = .bool ((s0 && s1) && s2)
  | 20, u, _, _ => u = strL' (idB 118 z.sc ++ z.nm.data.toList)
  | 21, u, _, _ => u = .bool ((s0 && s1) && s2)
  | _, _, _, _ => True
def tce2Anc (i : Nat) : List Nat := ([[], [0], [0, 1], [], [3], [0, 1, 2, 3, 4], [], [6], [6, 7], [0, 1, 2, 6, 7, 8], [0, 1, 2, 6, 7, 8, 9], [0, 1, 2, 6, 7, 8, 9, 10], [0, 1, 2, 6, 7, 8, 9, 10, 11], [0, 1, 2, 6, 7, 8, 9, 10, 11, 12], [0, 1, 2, 6, 7, 8, 9, 10, 11, 12, 13], [0, 1, 2, 6, 7, 8, 9, 10, 11, 12, 13, 14], [0, 1, 2, 6, 7, 8, 9, 10, 11, 12, 13, 14, 15], [0, 1, 2, 6, 7, 8, 9, 10, 11, 12, 13, 14, 15, 16], [0, 1, 2, 6, 7, 8, 9, 10, 11, 12, 13, 14, 15, 16, 17], [0, 1, 2, 6, 7, 8, 9, 10, 11, 12, 13, 14, 15, 16, 17, 18], [0, 1, 2, 3, 4, 5, 6, 7, 8, 9, 10, 11, 12, 13, 14], [0, 1, 2, 3, 4, 5, 6, 7, 8, 9, 10, 11, 12, 13, 14, 15, 16, 17, 18, 19, 20]] : List (List Nat)).getD i []
def tce2Need (i : Nat) : List Nat := ([[], [0], [1], [], [3], [2, 4], [], [6], [7], [8], [9], [10, 9], [11, 9], [9, 12], [13], [14], [15, 14], [16, 14], [17, 14], [14, 18], [5], [19]] : List (List Nat)).getD i []
def tce2Dep (i : Nat) : List Nat := ([[], [], [], [], [], [], [], [], [], [], [], [], [], [], [], [], [], [], [], [], [], []] : List (List Nat)).getD i []
def tce2Kill (_ _ : Nat) : Bool := false
def tce2Pure (j : Nat) : Bool := !([].contains j)
theorem tce2F_pure {j : Nat} {u : Value} {ds : List Value} {w w' : World} {b : Nat} {z : Cl} {s0 s1 s2 : Bool} (hp : tce2Pure j = true) (h : tce2F b z s0 s1 s2 j u ds w) : tce2F b z s0 s1 s2 j u ds w' := by
  match j with
  | 0 => exact h
  | 1 => exact h
  | 2 => exact h
  | 3 => exact h
  | 4 => exact h
  | 5 => exact h
  | 6 => exact h
  | 7 => exact h
  | 8 => exact h
  | 9 => exact h
  | 10 => exact h
  | 11 => exact h
  | 12 => exact h
  | 13 => exact h
  | 14 => exact h
  | 15 => exact h
  | 16 => exact h
  | 17 => exact h
  | 18 => exact h
  | 19 => exact h
  | 20 => exact h
  | 21 => exact h
  | _ + 22 => trivial
theorem tce2F_mono {j : Nat} {u : Value} {ds : List Value} {w w' : World} {b : Nat} {z : Cl} {s0 s1 s2 : Bool} (_hb : Below w.heap.size w w') (h : tce2F b z s0 s1 s2 j u ds w) : tce2F b z s0 s1 s2 j u ds w' := by
  match j with
  | 0 => exact h
  | 1 => exact h
  | 2 => exact h
  | 3 => exact h
  | 4 => exact h
  | 5 => exact h
  | 6 => exact h
  | 7 => exact h
  | 8 => exact h
  | 9 => exact h
  | 10 => exact h
  | 11 => exact h
  | 12 => exact h
  | 13 => exact h
  | 14 => exact h
  | 15 => exact h
  | 16 => exact h
  | 17 => exact h
  | 18 => exact h
  | 19 => exact h
  | 20 => exact h
  | 21 => exact h
  | _ + 22 => trivial
theorem tce2Keep (x : List Nat) {i : Nat} (h : ((List.range 22).all fun j => tce2Pure j || j == i || tce2Kill i j || (tce2Anc j).contains i || x.contains j) = true) {w w' : World} {b : Nat} {z : Cl} {s0 s1 s2 : Bool} : ∀ j (vs' : Nat → Value), j ≠ i → tce2Kill i j = false → (tce2Anc j).contains i = false → (x.contains j = false) →
    asrt (tce2F b z s0 s1 s2) tce2Dep j vs' w → asrt (tce2F b z s0 s1 s2) tce2Dep j vs' w' := by
  intro j vs' h1 h2 h3 h0 h4
  by_cases hj : j < 22
  · have := List.all_eq_true.1 h j (List.mem_range.2 hj)
    rw [h2, h3, h0] at this
    simp only [Bool.or_false, Bool.or_eq_true, beq_iff_eq] at this
    rcases this with h5 | h5
    · exact tce2F_pure h5 h4
    · exact absurd h5 h1
  · exact tce2F_pure (by unfold tce2Pure; simp) h4
theorem tce2Anc_out {j : Nat} (h : 22 ≤ j) : tce2Anc j = [] := by
  unfold tce2Anc
  rw [List.getD_eq_getElem?_getD, List.getElem?_eq_none (by simpa using h)]
  rfl
theorem tce2Dep_out {j : Nat} (h : 22 ≤ j) : tce2Dep j = [] := by
  unfold tce2Dep
  rw [List.getD_eq_getElem?_getD, List.getElem?_eq_none (by simpa using h)]
  rfl
theorem tce2Dep_anc : ∀ j, ∀ d ∈ tce2Dep j, d ∈ tce2Anc j := by
  intro j d hd
  by_cases h : j < 22
  · exact (by decide : ∀ j, j < 22 → ∀ d ∈ tce2Dep j, d ∈ tce2Anc j) j h d hd
  · rw [tce2Dep_out (by omega)] at hd
    cases hd
set_option maxRecDepth 100000 in
set_option maxHeartbeats 4000000 in
theorem tellCell_any (z : Cl) (p : Nat) (w : World) (h : Pn w p [] true) (hk : z.k < 256) (hn1 : -9223372036854775808 ≤ z.n) (hn2 : z.n ≤ 9223372036854775807) (ht : z.t.size ≤ 140737488351232) (hm : z.nm.size ≤ 140737488351232) :
    Calls Tryz.prog 23 #[.agg #[.int .i64 z.sc, .string z.nm, .int .u8 z.k, .int .i64 z.n, .string z.t], pt p] w fun e w' => e = .returned (.tuple #[strL' (clE z).k, .bool (decide (0 ≤ z.sc ∧ z.sc ≤ 1099511627776 ∧ z.nm.size ≤ 13))]) ∧ But p w w' ∧ Pn w' p (clE z).v (may z.k z.n z.t) := by
  have HV : Hid (z.k < 256 ∧ -9223372036854775808 ≤ z.n ∧ z.n ≤ 9223372036854775807 ∧ z.t.size ≤ 140737488351232 ∧ z.nm.size ≤ 140737488351232) := Lib.hid ⟨hk, hn1, hn2, ht, hm⟩
  have hL : True := trivial
  have HL := Lib.hid hL
  have HP0 : Hid (Pn (w.alloc (.cells #[.int .i64 z.sc, .string z.nm, .int .u8 z.k, .int .i64 z.n, .string z.t] 53)).drew p [] true) := Lib.hid (h.keptB (((Below.refl _ _).alloc (Nat.le_refl _) _).drew))
  have HC := Lib.hid (box_cells (w := w) (p := p) (cs := #[.int .i64 z.sc, .string z.nm, .int .u8 z.k, .int .i64 z.n, .string z.t]) (t := 53) h.lt)
  have HW : Hid (But p w (w.alloc (.cells #[.int .i64 z.sc, .string z.nm, .int .u8 z.k, .int .i64 z.n, .string z.t] 53)).drew) := (But.alloc p w _).trans (But.drewN p _ 1)
  clear h hL
  rw [cl_ok]
  obtain ⟨s0, h0⟩ : ∃ d, decide (0 ≤ z.sc) = d := ⟨_, rfl⟩
  obtain ⟨s1, h1⟩ : ∃ d, decide (z.sc ≤ 1099511627776) = d := ⟨_, rfl⟩
  obtain ⟨s2, h2⟩ : ∃ d, decide ((z.nm.size : Int) ≤ 13) = d := ⟨_, rfl⟩
  rw [h0, h1, h2]
  have H0 := Lib.hid h0
  have H1 := Lib.hid h1
  have H2 := Lib.hid h2
  clear h0 h1 h2
  go_enter Tryz.func23, Tryz.ntmps23
  skip
  have HPA : Hid (Pn (w.alloc (.cells #[.int .i64 z.sc, .string z.nm, .int .u8 z.k, .int .i64 z.n, .string z.t] 53)) p [] true) := Lib.hid HP0.out
  go_upto_region 2 with (go_at_call 43; with_reducible refine (pen_value p [] true z.k z.n z.t _ HPA.out (by simp) HV.out.1 HV.out.2.1 HV.out.2.2.1 HV.out.2.2.2.1).mono ?_; rintro e V ⟨rfl, hI, hP⟩; have HB2 : Hid (But p (w.alloc (.cells #[.int .i64 z.sc, .string z.nm, .int .u8 z.k, .int .i64 z.n, .string z.t] 53)).drew V) := Lib.hid (But.undrew hI); have HP2 := Lib.hid hP; clear hI hP)
  refine wp_region_asrt (by kernel_rfl) (PtJ p (w.alloc (.cells #[.int .i64 z.sc, .string z.nm, .int .u8 z.k, .int .i64 z.n, .string z.t] 53)).drew ([] ++ valL z.k z.n z.t) (true && may z.k z.n z.t)) (tce2F w.heap.size z s0 s1 s2) tce2Dep tce2Need tce2Anc tce2Kill 22 [some 10, some 11, some 12, some 13, some 14, some 15, some 16, some 17, some 18, some 19, some 20, some 21, some 22, some 23, some 24, some 25, some 26, some 27, some 28, some 29, some 4, some 5] rfl rfl (by kernel_rfl) tce2Dep_anc ⟨HB2.out.trans (But.drewN p V 1), HP2.out⟩ (fun j h => tce2Anc_out h) (fun j h => by
      match j, h with
      | _ + 22, _ => trivial) (fun j h => tce2Dep_out h) ⟨?_, ?_, ?_, ?_, ?_, ?_, ?_, ?_, ?_, ?_, ?_, ?_, ?_, ?_, ?_, ?_, ?_, ?_, ?_, ?_, ?_, ?_, trivial⟩ ?_
  · refine Step.mk (oi := _) rfl [] (fun cs b h => by cases h) (by kernel_rfl) (fun vs W hI hA => ?_)
    simp only [List.map]
    simp only [putR]
    refine SOp.val (v := .pointer (some ⟨w.heap.size, 0, none⟩)) (w' := W) (by kernel_rfl) (by go_simp) ⟨hI, upd_self _ _ _, fun _ _ _ _ _ h => h⟩
  · refine Step.mk (oi := _) rfl [(10, 0)] (fun cs b h => by cases h) (by kernel_rfl) (fun vs W hI hA => ?_)
    simp only [List.map]
    have h0 : vs 0 = .pointer (some ⟨w.heap.size, 0, none⟩) := hA 0 (by decide)
    rw [h0]
    have c0 := HC.out W hI.1 0 _ rfl
    simp only [putR, Act.put, List.setIfInBounds_toArray, List.set_cons_zero, List.set_cons_succ]
    refine SOp.val (v := .int .i64 z.sc) (w' := W) (by kernel_rfl) (by go_simp) ⟨hI, upd_self _ _ _, fun _ _ _ _ _ h => h⟩
  · refine Step.mk (oi := _) rfl [(11, 1)] (fun cs b h => by cases h) (by kernel_rfl) (fun vs W hI hA => ?_)
    simp only [List.map]
    have h1 : vs 1 = .int .i64 z.sc := hA 1 (by decide)
    rw [h1]
    simp only [putR, Act.put, List.setIfInBounds_toArray, List.set_cons_zero, List.set_cons_succ]
    refine SOp.enter (f := 41) (args := #[.int .u8 118, .int .i64 z.sc]) (by kernel_rfl) (by go_simp) ((id_any 118 z.sc W).mono ?_)
    rintro e w1 ⟨rfl, hb⟩
    exact ⟨strL' (idB 118 z.sc), rfl, ⟨hI.1.trans (But.of_below hb), hI.2.keptB hb⟩, upd_self _ _ _, fun _ _ _ _ _ h => tce2F_mono hb h⟩
  · refine Step.mk (oi := _) rfl [] (fun cs b h => by cases h) (by kernel_rfl) (fun vs W hI hA => ?_)
    simp only [List.map]
    simp only [putR]
    refine SOp.val (v := .pointer (some ⟨w.heap.size, 1, none⟩)) (w' := W) (by kernel_rfl) (by go_simp) ⟨hI, upd_self _ _ _, fun _ _ _ _ _ h => h⟩
  · refine Step.mk (oi := _) rfl [(13, 3)] (fun cs b h => by cases h) (by kernel_rfl) (fun vs W hI hA => ?_)
    simp only [List.map]
    have h3 : vs 3 = .pointer (some ⟨w.heap.size, 1, none⟩) := hA 3 (by decide)
    rw [h3]
    have c1 := HC.out W hI.1 1 _ rfl
    simp only [putR, Act.put, List.setIfInBounds_toArray, List.set_cons_zero, List.set_cons_succ]
    refine SOp.val (v := .string z.nm) (w' := W) (by kernel_rfl) (by go_simp) ⟨hI, upd_self _ _ _, fun _ _ _ _ _ h => h⟩
  · refine Step.mk (oi := _) rfl [(12, 2), (14, 4)] (fun cs b h => by cases h) (by kernel_rfl) (fun vs W hI hA => ?_)
    simp only [List.map]
    have h2 : vs 2 = strL' (idB 118 z.sc) := hA 2 (by decide)
    have h4 : vs 4 = .string z.nm := hA 4 (by decide)
    rw [h2, h4]
    simp only [putR, Act.put, List.setIfInBounds_toArray, List.set_cons_zero, List.set_cons_succ]
    refine SOp.val (v := strL' (idB 118 z.sc ++ z.nm.data.toList)) (w' := W) (by kernel_rfl) (by go_simp; rw [if_neg (by have := HV.out.2.2.2.2; simp only [idB, List.length_cons, List.length_nil]; omega)] <;> rfl) ⟨hI, upd_self _ _ _, fun _ _ _ _ _ h => h⟩
  · refine Step.mk (oi := _) rfl [] (fun cs b h => by cases h) (by kernel_rfl) (fun vs W hI hA => ?_)
    simp only [List.map]
    simp only [putR]
    refine SOp.val (v := .pointer (some ⟨w.heap.size, 0, none⟩)) (w' := W) (by kernel_rfl) (by go_simp) ⟨hI, upd_self _ _ _, fun _ _ _ _ _ h => h⟩
  · refine Step.mk (oi := _) rfl [(16, 6)] (fun cs b h => by cases h) (by kernel_rfl) (fun vs W hI hA => ?_)
    simp only [List.map]
    have h6 : vs 6 = .pointer (some ⟨w.heap.size, 0, none⟩) := hA 6 (by decide)
    rw [h6]
    have c0 := HC.out W hI.1 0 _ rfl
    simp only [putR, Act.put, List.setIfInBounds_toArray, List.set_cons_zero, List.set_cons_succ]
    refine SOp.val (v := .int .i64 z.sc) (w' := W) (by kernel_rfl) (by go_simp) ⟨hI, upd_self _ _ _, fun _ _ _ _ _ h => h⟩
  · refine Step.mk (oi := _) rfl [(17, 7)] (fun cs b h => by cases h) (by kernel_rfl) (fun vs W hI hA => ?_)
    simp only [List.map]
    have h7 : vs 7 = .int .i64 z.sc := hA 7 (by decide)
    rw [h7]
    simp only [putR, Act.put, List.setIfInBounds_toArray, List.set_cons_zero, List.set_cons_succ]
    refine SOp.val (v := .bool s0) (w' := W) (by kernel_rfl) (by go_simp <;> first | rw [H0.out] | exact congrArg _ H0.out) ⟨hI, upd_self _ _ _, fun _ _ _ _ _ h => h⟩
  · refine Step.mk (oi := _) rfl [(18, 8)] (fun cs b h => by cases h) (by kernel_rfl) (fun vs W hI hA => ?_)
    simp only [List.map]
    have h8 : vs 8 = .bool s0 := hA 8 (by decide)
    rw [h8]
    simp only [putR, Act.put, List.setIfInBounds_toArray, List.set_cons_zero, List.set_cons_succ]
    refine SOp.val (v := .bool s0) (w' := W) (by kernel_rfl) (by go_simp) ⟨hI, upd_self _ _ _, fun _ _ _ _ _ h => h⟩
  · refine Step.mk (oi := _) rfl [(19, 9)] (fun cs b h => by cases h) (by kernel_rfl) (fun vs W hI hA => ?_)
    simp only [List.map]
    have h9 : vs 9 = .bool s0 := hA 9 (by decide)
    rw [h9]
    cases s0
    · simp only [putR, Act.put, List.setIfInBounds_toArray, List.set_cons_zero, List.set_cons_succ]
      exact SOp.skipped (by kernel_rfl) ⟨hI, upd_self _ _ _, fun _ _ _ _ _ h => h⟩
    · skip
      try simp only [cond]
      simp only [putR, Act.put, List.setIfInBounds_toArray, List.set_cons_zero, List.set_cons_succ]
      refine SOp.val (v := .pointer (some ⟨w.heap.size, 0, none⟩)) (w' := W) (by kernel_rfl) (by go_simp) ⟨hI, upd_self _ _ _, fun _ _ _ _ _ h => h⟩
  · refine Step.mk (oi := _) rfl [(20, 10), (19, 9)] (fun cs b h => by cases h) (by kernel_rfl) (fun vs W hI hA => ?_)
    simp only [List.map]
    have h10 : vs 10 = cond s0 (.pointer (some ⟨w.heap.size, 0, none⟩)) undef := hA 10 (by decide)
    have h9 : vs 9 = .bool s0 := hA 9 (by decide)
    rw [h10, h9]
    have c0 := HC.out W hI.1 0 _ rfl
    cases s0
    · simp only [putR, Act.put, List.setIfInBounds_toArray, List.set_cons_zero, List.set_cons_succ]
      exact SOp.skipped (by kernel_rfl) ⟨hI, upd_self _ _ _, fun _ _ _ _ _ h => h⟩
    · skip
      try simp only [cond]
      simp only [putR, Act.put, List.setIfInBounds_toArray, List.set_cons_zero, List.set_cons_succ]
      refine SOp.val (v := .int .i64 z.sc) (w' := W) (by kernel_rfl) (by go_simp) ⟨hI, upd_self _ _ _, fun _ _ _ _ _ h => h⟩
  · refine Step.mk (oi := _) rfl [(21, 11), (19, 9)] (fun cs b h => by cases h) (by kernel_rfl) (fun vs W hI hA => ?_)
    simp only [List.map]
    have h11 : vs 11 = cond s0 (.int .i64 z.sc) undef := hA 11 (by decide)
    have h9 : vs 9 = .bool s0 := hA 9 (by decide)
    rw [h11, h9]
    cases s0
    · simp only [putR, Act.put, List.setIfInBounds_toArray, List.set_cons_zero, List.set_cons_succ]
      exact SOp.skipped (by kernel_rfl) ⟨hI, upd_self _ _ _, fun _ _ _ _ _ h => h⟩
    · skip
      try simp only [cond]
      simp only [putR, Act.put, List.setIfInBounds_toArray, List.set_cons_zero, List.set_cons_succ]
      refine SOp.val (v := .bool s1) (w' := W) (by kernel_rfl) (by go_simp <;> first | rw [H1.out] | exact congrArg _ H1.out) ⟨hI, upd_self _ _ _, fun _ _ _ _ _ h => h⟩
  · refine Step.mk (oi := _) rfl [(19, 9), (22, 12)] (fun cs b h => by cases h) (by kernel_rfl) (fun vs W hI hA => ?_)
    simp only [List.map]
    have h9 : vs 9 = .bool s0 := hA 9 (by decide)
    have h12 : vs 12 = cond s0 (.bool s1) undef := hA 12 (by decide)
    rw [h9, h12]
    cases s0
    · try simp only [cond]
      simp only [putR, Act.put, List.setIfInBounds_toArray, List.set_cons_zero, List.set_cons_succ]
      refine SOp.val (v := .bool false) (w' := W) (by kernel_rfl) (by go_simp) ⟨hI, upd_self _ _ _, fun _ _ _ _ _ h => h⟩
    · skip
      try simp only [cond]
      simp only [putR, Act.put, List.setIfInBounds_toArray, List.set_cons_zero, List.set_cons_succ]
      refine SOp.val (v := .bool s1) (w' := W) (by kernel_rfl) (by go_simp) ⟨hI, upd_self _ _ _, fun _ _ _ _ _ h => h⟩
  · refine Step.mk (oi := _) rfl [(23, 13)] (fun cs b h => by cases h) (by kernel_rfl) (fun vs W hI hA => ?_)
    simp only [List.map]
    have h13 : vs 13 = .bool (s0 && s1) := hA 13 (by decide)
    rw [h13]
    simp only [putR, Act.put, List.setIfInBounds_toArray, List.set_cons_zero, List.set_cons_succ]
    refine SOp.val (v := .bool (s0 && s1)) (w' := W) (by kernel_rfl) (by go_simp) ⟨hI, upd_self _ _ _, fun _ _ _ _ _ h => h⟩
  · refine Step.mk (oi := _) rfl [(24, 14)] (fun cs b h => by cases h) (by kernel_rfl) (fun vs W hI hA => ?_)
    simp only [List.map]
    have h14 : vs 14 = .bool (s0 && s1) := hA 14 (by decide)
    rw [h14]
    cases s0
    · simp only [putR, Act.put, List.setIfInBounds_toArray, List.set_cons_zero, List.set_cons_succ]
      exact SOp.skipped (by kernel_rfl) ⟨hI, upd_self _ _ _, fun _ _ _ _ _ h => h⟩
    · skip
      cases s1
      · simp only [putR, Act.put, List.setIfInBounds_toArray, List.set_cons_zero, List.set_cons_succ]
        exact SOp.skipped (by kernel_rfl) ⟨hI, upd_self _ _ _, fun _ _ _ _ _ h => h⟩
      · skip
        try simp only [cond]
        simp only [putR, Act.put, List.setIfInBounds_toArray, List.set_cons_zero, List.set_cons_succ]
        refine SOp.val (v := .pointer (some ⟨w.heap.size, 1, none⟩)) (w' := W) (by kernel_rfl) (by go_simp) ⟨hI, upd_self _ _ _, fun _ _ _ _ _ h => h⟩
  · refine Step.mk (oi := _) rfl [(25, 15), (24, 14)] (fun cs b h => by cases h) (by kernel_rfl) (fun vs W hI hA => ?_)
    simp only [List.map]
    have h15 : vs 15 = cond (s0 && s1) (.pointer (some ⟨w.heap.size, 1, none⟩)) undef := hA 15 (by decide)
    have h14 : vs 14 = .bool (s0 && s1) := hA 14 (by decide)
    rw [h15, h14]
    have c1 := HC.out W hI.1 1 _ rfl
    cases s0
    · simp only [putR, Act.put, List.setIfInBounds_toArray, List.set_cons_zero, List.set_cons_succ]
      exact SOp.skipped (by kernel_rfl) ⟨hI, upd_self _ _ _, fun _ _ _ _ _ h => h⟩
    · skip
      cases s1
      · simp only [putR, Act.put, List.setIfInBounds_toArray, List.set_cons_zero, List.set_cons_succ]
        exact SOp.skipped (by kernel_rfl) ⟨hI, upd_self _ _ _, fun _ _ _ _ _ h => h⟩
      · skip
        try simp only [cond]
        simp only [putR, Act.put, List.setIfInBounds_toArray, List.set_cons_zero, List.set_cons_succ]
        refine SOp.val (v := .string z.nm) (w' := W) (by kernel_rfl) (by go_simp) ⟨hI, upd_self _ _ _, fun _ _ _ _ _ h => h⟩
  · refine Step.mk (oi := _) rfl [(26, 16), (24, 14)] (fun cs b h => by cases h) (by kernel_rfl) (fun vs W hI hA => ?_)
    simp only [List.map]
    have h16 : vs 16 = cond (s0 && s1) (.string z.nm) undef := hA 16 (by decide)
    have h14 : vs 14 = .bool (s0 && s1) := hA 14 (by decide)
    rw [h16, h14]
    cases s0
    · simp only [putR, Act.put, List.setIfInBounds_toArray, List.set_cons_zero, List.set_cons_succ]
      exact SOp.skipped (by kernel_rfl) ⟨hI, upd_self _ _ _, fun _ _ _ _ _ h => h⟩
    · skip
      cases s1
      · simp only [putR, Act.put, List.setIfInBounds_toArray, List.set_cons_zero, List.set_cons_succ]
        exact SOp.skipped (by kernel_rfl) ⟨hI, upd_self _ _ _, fun _ _ _ _ _ h => h⟩
      · skip
        try simp only [cond]
        simp only [putR, Act.put, List.setIfInBounds_toArray, List.set_cons_zero, List.set_cons_succ]
        refine SOp.val (v := .int .i64 z.nm.size) (w' := W) (by kernel_rfl) (by go_simp) ⟨hI, upd_self _ _ _, fun _ _ _ _ _ h => h⟩
  · refine Step.mk (oi := _) rfl [(27, 17), (24, 14)] (fun cs b h => by cases h) (by kernel_rfl) (fun vs W hI hA => ?_)
    simp only [List.map]
    have h17 : vs 17 = cond (s0 && s1) (.int .i64 z.nm.size) undef := hA 17 (by decide)
    have h14 : vs 14 = .bool (s0 && s1) := hA 14 (by decide)
    rw [h17, h14]
    cases s0
    · simp only [putR, Act.put, List.setIfInBounds_toArray, List.set_cons_zero, List.set_cons_succ]
      exact SOp.skipped (by kernel_rfl) ⟨hI, upd_self _ _ _, fun _ _ _ _ _ h => h⟩
    · skip
      cases s1
      · simp only [putR, Act.put, List.setIfInBounds_toArray, List.set_cons_zero, List.set_cons_succ]
        exact SOp.skipped (by kernel_rfl) ⟨hI, upd_self _ _ _, fun _ _ _ _ _ h => h⟩
      · skip
        try simp only [cond]
        simp only [putR, Act.put, List.setIfInBounds_toArray, List.set_cons_zero, List.set_cons_succ]
        refine SOp.val (v := .bool s2) (w' := W) (by kernel_rfl) (by go_simp <;> first | rw [H2.out] | exact congrArg _ H2.out) ⟨hI, upd_self _ _ _, fun _ _ _ _ _ h => h⟩
  · refine Step.mk (oi := _) rfl [(24, 14), (28, 18)] (fun cs b h => by cases h) (by kernel_rfl) (fun vs W hI hA => ?_)
    simp only [List.map]
    have h14 : vs 14 = .bool (s0 && s1) := hA 14 (by decide)
    have h18 : vs 18 = cond (s0 && s1) (.bool s2) undef := hA 18 (by decide)
    rw [h14, h18]
    cases s0
    · try simp only [cond]
      simp only [putR, Act.put, List.setIfInBounds_toArray, List.set_cons_zero, List.set_cons_succ]
      refine SOp.val (v := .bool false) (w' := W) (by kernel_rfl) (by go_simp) ⟨hI, upd_self _ _ _, fun _ _ _ _ _ h => h⟩
    · skip
      cases s1
      · try simp only [cond]
        simp only [putR, Act.put, List.setIfInBounds_toArray, List.set_cons_zero, List.set_cons_succ]
        refine SOp.val (v := .bool false) (w' := W) (by kernel_rfl) (by go_simp) ⟨hI, upd_self _ _ _, fun _ _ _ _ _ h => h⟩
      · skip
        try simp only [cond]
        simp only [putR, Act.put, List.setIfInBounds_toArray, List.set_cons_zero, List.set_cons_succ]
        refine SOp.val (v := .bool s2) (w' := W) (by kernel_rfl) (by go_simp) ⟨hI, upd_self _ _ _, fun _ _ _ _ _ h => h⟩
  · refine Step.mk (oi := _) rfl [(15, 5)] (fun cs b h => by cases h) (by kernel_rfl) (fun vs W hI hA => ?_)
    simp only [List.map]
    have h5 : vs 5 = strL' (idB 118 z.sc ++ z.nm.data.toList) := hA 5 (by decide)
    rw [h5]
    simp only [putR, Act.put, List.setIfInBounds_toArray, List.set_cons_zero, List.set_cons_succ]
    refine SOp.val (v := strL' (idB 118 z.sc ++ z.nm.data.toList)) (w' := W) (by kernel_rfl) (by go_simp) ⟨hI, upd_self _ _ _, fun _ _ _ _ _ h => h⟩
  · refine Step.mk (oi := _) rfl [(29, 19)] (fun cs b h => by cases h) (by kernel_rfl) (fun vs W hI hA => ?_)
    simp only [List.map]
    have h19 : vs 19 = .bool ((s0 && s1) && s2) := hA 19 (by decide)
    rw [h19]
    simp only [putR, Act.put, List.setIfInBounds_toArray, List.set_cons_zero, List.set_cons_succ]
    refine SOp.val (v := .bool ((s0 && s1) && s2)) (w' := W) (by kernel_rfl) (by go_simp) ⟨hI, upd_self _ _ _, fun _ _ _ _ _ h => h⟩
  · intro vs2 V2 hI2 hφ2
    have q4 : vs2 20 = strL' (idB 118 z.sc ++ z.nm.data.toList) := hφ2 20 (fun k _ => by rfl)
    have q5 : vs2 21 = .bool ((s0 && s1) && s2) := hφ2 21 (fun k _ => by rfl)
    clear hφ2
    simp only [putAll, Act.put, List.setIfInBounds_toArray, List.set_cons_zero, List.set_cons_succ]
    rw [q4, q5]
    have HI2 := Lib.hid hI2
    clear hI2 q4 q5
    go_wp2
    go_ret2
    refine ⟨by show Ending.returned (.tuple #[strL' (idB 118 z.sc ++ z.nm.data.toList), .bool ((s0 && s1) && s2)]) = _; rfl, HW.out.trans HI2.out.1, ?_⟩
    have := HI2.out.2
    simpa only [clE, List.nil_append, Bool.true_and] using this
/-- what each operation of the region leaves -/
def twafF (p b : Nat) (z : Wa) : Nat → Value → List Value → World → Prop
  | 0, u, _, _ => u = pt p
  | 1, u, _, _ => u = .pointer (some ⟨b, 1, none⟩)
  | 2, u, _, _ => u = .int .i64 z.item
  | 3, u, _, w => u = pt p ∧ Pn w p ([] ++ numL (z.item)) (true && numB (z.item))
  | 4, u, _, _ => u = .pointer (some ⟨b, 2, none⟩)
  | 5, u, _, _ => u = .int .i64 z.node
  | 6, u, _, _ => u = .int .i64 (incS z.node)
  | 7, u, _, w => u = pt p ∧ Pn w p (([] ++ numL (z.item)) ++ numL (incS z.node)) ((true && numB (z.item)) && numB (incS z.node))
  | 8, u, _, _ => u = .pointer (some ⟨b, 3, none⟩)
  | 9, u, _, _ => u = .int .u8 z.ev
  | 10, u, _, _ => u = .int .i64 z.ev
  | 11, u, _, w => u = pt p ∧ Pn w p ((([] ++ numL (z.item)) ++ numL (incS z.node)) ++ numL ((z.ev : Int))) (((true && numB (z.item)) && numB (incS z.node)) && numB ((z.ev : Int)))
  | 12, u, _, _ => u = .pointer (some ⟨b, 4, none⟩)
  | 13, u, _, _ => u = .string z.key
  | 14, u, _, w => u = pt p ∧ Pn w p (((([] ++ numL (z.item)) ++ numL (incS z.node)) ++ numL ((z.ev : Int))) ++ txt z.key) ((((true && numB (z.item)) && numB (incS z.node)) && numB ((z.ev : Int))) && decide (z.key.size ≤ 13))
  | 15, u, _, _ => u = .pointer (some ⟨b, 5, none⟩)
  | 16, u, _, _ => u = .int .i64 z.due
  | 17, u, _, w => u = pt p ∧ Pn w p ((((([] ++ numL (z.item)) ++ numL (incS z.node)) ++ numL ((z.ev : Int))) ++ txt z.key) ++ numL (z.due)) (((((true && numB (z.item)) && numB (incS z.node)) && numB ((z.ev : Int))) && decide (z.key.size ≤ 13)) && numB (z.due))
  | 18, u, _, _ => u = .int .i64 (b2n false)
  | 19, u, _, w => u = pt p ∧ Pn w p (((((([] ++ numL (z.item)) ++ numL (incS z.node)) ++ numL ((z.ev : Int))) ++ txt z.key) ++ numL (z.due)) ++ numL (b2n false)) ((((((true && numB (z.item)) && numB (incS z.node)) && numB ((z.ev : Int))) && decide (z.key.size ≤ 13)) && numB (z.due)) && numB (b2n false))
  | 20, _, _, w => Pn w p [] true
  | _, _, _, _ => True
def twafAnc (i : Nat) : List Nat := ([[], [], [1], [0, 1, 2], [], [4], [4, 5], [0, 1, 2, 3, 4, 5, 6], [], [8], [8, 9], [0, 1, 2, 3, 4, 5, 6, 7, 8, 9, 10], [], [12], [0, 1, 2, 3, 4, 5, 6, 7, 8, 9, 10, 11, 12, 13], [], [15], [0, 1, 2, 3, 4, 5, 6, 7, 8, 9, 10, 11, 12, 13, 14, 15, 16], [], [0, 1, 2, 3, 4, 5, 6, 7, 8, 9, 10, 11, 12, 13, 14, 15, 16, 17, 18]] : List (List Nat)).getD i []
def twafNeed (i : Nat) : List Nat := ([[], [], [1], [0, 2, 20], [], [4], [5], [3, 6], [], [8], [9], [7, 10], [], [12], [11, 13], [], [15], [14, 16], [], [17, 18]] : List (List Nat)).getD i []
def twafDep (i : Nat) : List Nat := ([[], [], [], [], [], [], [], [], [], [], [], [], [], [], [], [], [], [], [], []] : List (List Nat)).getD i []
def twafKill (i j : Nat) : Bool := (i == 7 && j == 3) || (i == 11 && j == 3) || (i == 11 && j == 7) || (i == 14 && j == 3) || (i == 14 && j == 7) || (i == 14 && j == 11) || (i == 17 && j == 3) || (i == 17 && j == 7) || (i == 17 && j == 11) || (i == 17 && j == 14) || (i == 19 && j == 3) || (i == 19 && j == 7) || (i == 19 && j == 11) || (i == 19 && j == 14) || (i == 19 && j == 17) || (i == 3 && j == 20) || (i == 7 && j == 20) || (i == 11 && j == 20) || (i == 14 && j == 20) || (i == 17 && j == 20) || (i == 19 && j == 20)
def twafPure (j : Nat) : Bool := !([3, 7, 11, 14, 17, 19, 20].contains j)
theorem twafF_pure {j : Nat} {u : Value} {ds : List Value} {w w' : World} {p b : Nat} {z : Wa} (hp : twafPure j = true) (h : twafF p b z j u ds w) : twafF p b z j u ds w' := by
  match j with
  | 0 => exact h
  | 1 => exact h
  | 2 => exact h
  | 3 => exact absurd hp (by decide)
  | 4 => exact h
  | 5 => exact h
  | 6 => exact h
  | 7 => exact absurd hp (by decide)
  | 8 => exact h
  | 9 => exact h
  | 10 => exact h
  | 11 => exact absurd hp (by decide)
  | 12 => exact h
  | 13 => exact h
  | 14 => exact absurd hp (by decide)
  | 15 => exact h
  | 16 => exact h
  | 17 => exact absurd hp (by decide)
  | 18 => exact h
  | 19 => exact absurd hp (by decide)
  | 20 => exact absurd hp (by decide)
  | _ + 21 => trivial
theorem twafF_mono {j : Nat} {u : Value} {ds : List Value} {w w' : World} {p b : Nat} {z : Wa} (hb : Below w.heap.size w w') (h : twafF p b z j u ds w) : twafF p b z j u ds w' := by
  match j with
  | 0 => exact h
  | 1 => exact h
  | 2 => exact h
  | 3 => exact ⟨h.1, h.2.keptB hb⟩
  | 4 => exact h
  | 5 => exact h
  | 6 => exact h
  | 7 => exact ⟨h.1, h.2.keptB hb⟩
  | 8 => exact h
  | 9 => exact h
  | 10 => exact h
  | 11 => exact ⟨h.1, h.2.keptB hb⟩
  | 12 => exact h
  | 13 => exact h
  | 14 => exact ⟨h.1, h.2.keptB hb⟩
  | 15 => exact h
  | 16 => exact h
  | 17 => exact ⟨h.1, h.2.keptB hb⟩
  | 18 => exact h
  | 19 => exact ⟨h.1, h.2.keptB hb⟩
  | 20 => exact h.keptB hb
  | _ + 21 => trivial
theorem twafKeep (x : List Nat) {i : Nat} (h : ((List.range 21).all fun j => twafPure j || j == i || twafKill i j || (twafAnc j).contains i || x.contains j) = true) {w w' : World} {p b : Nat} {z : Wa} : ∀ j (vs' : Nat → Value), j ≠ i → twafKill i j = false → (twafAnc j).contains i = false → (x.contains j = false) →
    asrt (twafF p b z) twafDep j vs' w → asrt (twafF p b z) twafDep j vs' w' := by
  intro j vs' h1 h2 h3 h0 h4
  by_cases hj : j < 21
  · have := List.all_eq_true.1 h j (List.mem_range.2 hj)
    rw [h2, h3, h0] at this
    simp only [Bool.or_false, Bool.or_eq_true, beq_iff_eq] at this
    rcases this with h5 | h5
    · exact twafF_pure h5 h4
    · exact absurd h5 h1
  · exact twafF_pure (by unfold twafPure; simp; omega) h4
theorem twafAnc_out {j : Nat} (h : 20 ≤ j) : twafAnc j = [] := by
  unfold twafAnc
  rw [List.getD_eq_getElem?_getD, List.getElem?_eq_none (by simpa using h)]
  rfl
theorem twafDep_out {j : Nat} (h : 20 ≤ j) : twafDep j = [] := by
  unfold twafDep
  rw [List.getD_eq_getElem?_getD, List.getElem?_eq_none (by simpa using h)]
  rfl
theorem twafDep_anc : ∀ j, ∀ d ∈ twafDep j, d ∈ twafAnc j := by
  intro j d hd
  by_cases h : j < 20
  · exact (by decide : ∀ j, j < 20 → ∀ d ∈ twafDep j, d ∈ twafAnc j) j h d hd
  · rw [twafDep_out (by omega)] at hd
    cases hd
/-- what each operation of the region leaves -/
def twaf2F (b : Nat) (z : Wa) (k ln : Bool) : Nat → Value → List Value → World → Prop
  | 0, u, _, _ => u = .pointer (some ⟨b, 0, none⟩)
  | 1, u, _, _ => u = .int .i64 z.id
  | 2, u, _, _ => u = strL' (idB 119 z.id)
  | 3, u, _, _ => u = .pointer (some ⟨b, 0, none⟩)
  | 4, u, _, _ => u = .int .i64 z.id
  | 5, u, _, _ => u = .bool k
  | 6, u, _, _ => u = .bool k
  | 7, u, _, _ => u = cond k (.pointer (some ⟨b, 2, none⟩)) undef
  | 8, u, _, _ => u = cond k (.int .i64 z.node) undef
  | 9, u, _, _ => u = cond k (.bool ln) undef
  | 10, u, _, _ => u = .bool (k && ln)
  | 11, u, _, _ => u = strL' (idB 119 z.id)
  | 12, u, _, _ => u = .bool (k && ln)
  | _, _, _, _ => True
def twaf2Anc (i : Nat) : List Nat := ([[], [0], [0, 1], [], [3], [0, 1, 2, 3, 4], [0, 1, 2, 3, 4, 5], [0, 1, 2, 3, 4, 5, 6], [0, 1, 2, 3, 4, 5, 6, 7], [0, 1, 2, 3, 4, 5, 6, 7, 8], [0, 1, 2, 3, 4, 5, 6, 7, 8, 9], [0, 1, 2, 3, 4, 5, 6], [0, 1, 2, 3, 4, 5, 6, 7, 8, 9, 10, 11]] : List (List Nat)).getD i []
def twaf2Need (i : Nat) : List Nat := ([[], [0], [1], [], [3], [4], [5], [6], [7, 6], [8, 6], [6, 9], [2], [10]] : List (List Nat)).getD i []
def twaf2Dep (i : Nat) : List Nat := ([[], [], [], [], [], [], [], [], [], [], [], [], []] : List (List Nat)).getD i []
def twaf2Kill (_ _ : Nat) : Bool := false
def twaf2Pure (j : Nat) : Bool := !([].contains j)
theorem twaf2F_pure {j : Nat} {u : Value} {ds : List Value} {w w' : World} {b : Nat} {z : Wa} {k ln : Bool} (hp : twaf2Pure j = true) (h : twaf2F b z k ln j u ds w) : twaf2F b z k ln j u ds w' := by
  match j with
  | 0 => exact h
  | 1 => exact h
  | 2 => exact h
  | 3 => exact h
  | 4 => exact h
  | 5 => exact h
  | 6 => exact h
  | 7 => exact h
  | 8 => exact h
  | 9 => exact h
  | 10 => exact h
  | 11 => exact h
  | 12 => exact h
  | _ + 13 => trivial
theorem twaf2F_mono {j : Nat} {u : Value} {ds : List Value} {w w' : World} {b : Nat} {z : Wa} {k ln : Bool} (_hb : Below w.heap.size w w') (h : twaf2F b z k ln j u ds w) : twaf2F b z k ln j u ds w' := by
  match j with
  | 0 => exact h
  | 1 => exact h
  | 2 => exact h
  | 3 => exact h
  | 4 => exact h
  | 5 => exact h
  | 6 => exact h
  | 7 => exact h
  | 8 => exact h
  | 9 => exact h
  | 10 => exact h
  | 11 => exact h
  | 12 => exact h
  | _ + 13 => trivial
theorem twaf2Keep (x : List Nat) {i : Nat} (h : ((List.range 13).all fun j => twaf2Pure j || j == i || twaf2Kill i j || (twaf2Anc j).contains i || x.contains j) = true) {w w' : World} {b : Nat} {z : Wa} {k ln : Bool} : ∀ j (vs' : Nat → Value), j ≠ i → twaf2Kill i j = false → (twaf2Anc j).contains i = false → (x.contains j = false) →
    asrt (twaf2F b z k ln) twaf2Dep j vs' w → asrt (twaf2F b z k ln) twaf2Dep j vs' w' := by
  intro j vs' h1 h2 h3 h0 h4
  by_cases hj : j < 13
  · have := List.all_eq_true.1 h j (List.mem_range.2 hj)
    rw [h2, h3, h0] at this
    simp only [Bool.or_false, Bool.or_eq_true, beq_iff_eq] at this
    rcases this with h5 | h5
    · exact twaf2F_pure h5 h4
    · exact absurd h5 h1
  · exact twaf2F_pure (by unfold twaf2Pure; simp) h4
theorem twaf2Anc_out {j : Nat} (h : 13 ≤ j) : twaf2Anc j = [] := by
  unfold twaf2Anc
  rw [List.getD_eq_getElem?_getD, List.getElem?_eq_none (by simpa using h)]
  rfl
theorem twaf2Dep_out {j : Nat} (h : 13 ≤ j) : twaf2Dep j = [] := by
  unfold twaf2Dep
  rw [List.getD_eq_getElem?_getD, List.getElem?_eq_none (by simpa using h)]
  rfl
theorem twaf2Dep_anc : ∀ j, ∀ d ∈ twaf2Dep j, d ∈ twaf2Anc j := by
  intro j d hd
  by_cases h : j < 13
  · exact (by decide : ∀ j, j < 13 → ∀ d ∈ twaf2Dep j, d ∈ twaf2Anc j) j h d hd
  · rw [twaf2Dep_out (by omega)] at hd
    cases hd
set_option maxRecDepth 100000 in
set_option maxHeartbeats 4000000 in
theorem tellWatch_f (z : Wa) (p : Nat) (w : World) (h : Pn w p [] true) (h1 : z.key.size ≤ 140737488351232) (h3 : z.ev < 256) :
    Calls Tryz.prog 25 #[.agg #[.int .i64 z.id, .int .i64 z.item, .int .i64 z.node, .int .u8 z.ev, .string z.key, .int .i64 z.due, .bool false], pt p] w fun e w' => e = .returned (.tuple #[strL' (idB 119 z.id), .bool ((knownB z.id && lessB z.node))]) ∧ But p w w' ∧ Pn w' p (numL z.item ++ (numL (incS z.node) ++ (numL z.ev ++ (txt z.key ++ (numL z.due ++ numL (b2n false)))))) ((numB z.item && (numB (incS z.node) && (numB z.ev && (shortB z.key && (numB z.due && numB (b2n false))))))) := by
  have HQ : Hid (IntKind.i64.wrap (z.ev : Int) = z.ev) := Lib.hid (wrap_byte h3)
  have hL : z.key.size ≤ 140737488351232 ∧ (txt z.key).length ≤ z.key.size + 10 ∧ (numL z.item).length ≤ 10 ∧ (numL (incS z.node)).length ≤ 10 ∧ (numL z.ev).length ≤ 10 ∧ (numL z.due).length ≤ 10 := ⟨h1, txt_len _ h1, numL_len _, numL_len _, numL_len _, numL_len _⟩
  have HL := Lib.hid hL
  have HP0 : Hid (Pn (w.alloc (.cells #[.int .i64 z.id, .int .i64 z.item, .int .i64 z.node, .int .u8 z.ev, .string z.key, .int .i64 z.due, .bool false] 55)).drew p [] true) := Lib.hid (h.keptB (((Below.refl _ _).alloc (Nat.le_refl _) _).drew))
  have HC := Lib.hid (box_cells (w := w) (p := p) (cs := #[.int .i64 z.id, .int .i64 z.item, .int .i64 z.node, .int .u8 z.ev, .string z.key, .int .i64 z.due, .bool false]) (t := 55) h.lt)
  have HW : Hid (But p w (w.alloc (.cells #[.int .i64 z.id, .int .i64 z.item, .int .i64 z.node, .int .u8 z.ev, .string z.key, .int .i64 z.due, .bool false] 55)).drew) := (But.alloc p w _).trans (But.drewN p _ 1)
  clear h hL
  obtain ⟨k, hk⟩ : ∃ k, knownB z.id = k := ⟨_, rfl⟩
  obtain ⟨ln, hln⟩ : ∃ d, decide (z.node < 1099511627776) = d := ⟨_, rfl⟩
  rw [show lessB z.node = ln from hln, hk]
  have HK := Lib.hid hk
  have HLN := Lib.hid hln
  clear hk hln
  go_enter Tryz.func25, Tryz.ntmps25
  go_upto_region 4 with fail
  refine wp_region_asrt (by kernel_rfl) (But p (w.alloc (.cells #[.int .i64 z.id, .int .i64 z.item, .int .i64 z.node, .int .u8 z.ev, .string z.key, .int .i64 z.due, .bool false] 55)).drew) (twafF p w.heap.size z) twafDep twafNeed twafAnc twafKill 20 [some 9, some 10, some 11, some 12, some 13, some 14, some 15, some 16, some 17, some 18, some 19, some 20, some 21, some 22, some 23, some 24, some 25, some 26, some 27, some 28] rfl rfl (by kernel_rfl) twafDep_anc (But.refl _ _) (fun j h => twafAnc_out h) (fun j h => by
      by_cases e1 : j = 20
      · subst e1; exact HP0.out
      have e3 : 21 ≤ j := by omega
      match j, e3 with
      | _ + 21, _ => trivial) (fun j h => twafDep_out h) ⟨?_, ?_, ?_, ?_, ?_, ?_, ?_, ?_, ?_, ?_, ?_, ?_, ?_, ?_, ?_, ?_, ?_, ?_, ?_, ?_, trivial⟩ ?_
  · refine Step.mk (oi := _) rfl [] (fun cs b h => by cases h) (by kernel_rfl) (fun vs W hI hA => ?_)
    simp only [List.map]
    simp only [putR]
    refine SOp.val (v := pt p) (w' := W) (by kernel_rfl) (by go_simp) ⟨hI, upd_self _ _ _, fun _ _ _ _ _ h => h⟩
  · refine Step.mk (oi := _) rfl [] (fun cs b h => by cases h) (by kernel_rfl) (fun vs W hI hA => ?_)
    simp only [List.map]
    simp only [putR]
    refine SOp.val (v := .pointer (some ⟨w.heap.size, 1, none⟩)) (w' := W) (by kernel_rfl) (by go_simp) ⟨hI, upd_self _ _ _, fun _ _ _ _ _ h => h⟩
  · refine Step.mk (oi := _) rfl [(10, 1)] (fun cs b h => by cases h) (by kernel_rfl) (fun vs W hI hA => ?_)
    simp only [List.map]
    have h1 : vs 1 = .pointer (some ⟨w.heap.size, 1, none⟩) := hA 1 (by decide)
    rw [h1]
    have c1 := HC.out W hI 1 _ rfl
    simp only [putR, Act.put, List.setIfInBounds_toArray, List.set_cons_zero, List.set_cons_succ]
    refine SOp.val (v := .int .i64 z.item) (w' := W) (by kernel_rfl) (by go_simp) ⟨hI, upd_self _ _ _, fun _ _ _ _ _ h => h⟩
  · refine Step.mk (oi := _) rfl [(9, 0), (11, 2)] (fun cs b h => by cases h) (by kernel_rfl) (fun vs W hI hA => ?_)
    simp only [List.map]
    have h0 : vs 0 = pt p := hA 0 (by decide)
    have h2 : vs 2 = .int .i64 z.item := hA 2 (by decide)
    rw [h0, h2]
    have hP := hA 20 (by decide)
    simp only [putR, Act.put, List.setIfInBounds_toArray, List.set_cons_zero, List.set_cons_succ]
    refine SOp.enter (f := 18) (args := #[pt p, .int .i64 (z.item)]) (by kernel_rfl) (by go_simp) ((pen_num p [] true (z.item) W hP (by simp)).mono ?_)
    rintro e w1 ⟨rfl, hb, hP1⟩
    refine ⟨pt p, rfl, hI.trans hb, ⟨upd_self _ _ _, hP1⟩, ?_⟩
    intro j vs' a1 a2 a3 a4
    exact twafKeep [] (i := 3) (by decide) j vs' a1 a2 a3 (by rfl) a4
  · refine Step.mk (oi := _) rfl [] (fun cs b h => by cases h) (by kernel_rfl) (fun vs W hI hA => ?_)
    simp only [List.map]
    simp only [putR]
    refine SOp.val (v := .pointer (some ⟨w.heap.size, 2, none⟩)) (w' := W) (by kernel_rfl) (by go_simp) ⟨hI, upd_self _ _ _, fun _ _ _ _ _ h => h⟩
  · refine Step.mk (oi := _) rfl [(13, 4)] (fun cs b h => by cases h) (by kernel_rfl) (fun vs W hI hA => ?_)
    simp only [List.map]
    have h4 : vs 4 = .pointer (some ⟨w.heap.size, 2, none⟩) := hA 4 (by decide)
    rw [h4]
    have c2 := HC.out W hI 2 _ rfl
    simp only [putR, Act.put, List.setIfInBounds_toArray, List.set_cons_zero, List.set_cons_succ]
    refine SOp.val (v := .int .i64 z.node) (w' := W) (by kernel_rfl) (by go_simp) ⟨hI, upd_self _ _ _, fun _ _ _ _ _ h => h⟩
  · refine Step.mk (oi := _) rfl [(14, 5)] (fun cs b h => by cases h) (by kernel_rfl) (fun vs W hI hA => ?_)
    simp only [List.map]
    have h5 : vs 5 = .int .i64 z.node := hA 5 (by decide)
    rw [h5]
    simp only [putR, Act.put, List.setIfInBounds_toArray, List.set_cons_zero, List.set_cons_succ]
    refine SOp.val (v := .int .i64 (incS z.node)) (w' := W) (by kernel_rfl) (by go_simp <;> first | rfl | (unfold incS; rfl)) ⟨hI, upd_self _ _ _, fun _ _ _ _ _ h => h⟩
  · refine Step.mk (oi := _) rfl [(12, 3), (15, 6)] (fun cs b h => by cases h) (by kernel_rfl) (fun vs W hI hA => ?_)
    simp only [List.map]
    have h6 : vs 6 = .int .i64 (incS z.node) := hA 6 (by decide)
    rw [h6]
    obtain ⟨e0, hP⟩ := hA 3 (by decide)
    rw [e0]
    simp only [putR, Act.put, List.setIfInBounds_toArray, List.set_cons_zero, List.set_cons_succ]
    refine SOp.enter (f := 18) (args := #[pt p, .int .i64 (incS z.node)]) (by kernel_rfl) (by go_simp) ((pen_num p ([] ++ numL (z.item)) (true && numB (z.item)) (incS z.node) W hP (by simp only [List.length_append, List.length_nil]; have := HL.out; omega)).mono ?_)
    rintro e w1 ⟨rfl, hb, hP1⟩
    refine ⟨pt p, rfl, hI.trans hb, ⟨upd_self _ _ _, hP1⟩, ?_⟩
    intro j vs' a1 a2 a3 a4
    exact twafKeep [] (i := 7) (by decide) j vs' a1 a2 a3 (by rfl) a4
  · refine Step.mk (oi := _) rfl [] (fun cs b h => by cases h) (by kernel_rfl) (fun vs W hI hA => ?_)
    simp only [List.map]
    simp only [putR]
    refine SOp.val (v := .pointer (some ⟨w.heap.size, 3, none⟩)) (w' := W) (by kernel_rfl) (by go_simp) ⟨hI, upd_self _ _ _, fun _ _ _ _ _ h => h⟩
  · refine Step.mk (oi := _) rfl [(17, 8)] (fun cs b h => by cases h) (by kernel_rfl) (fun vs W hI hA => ?_)
    simp only [List.map]
    have h8 : vs 8 = .pointer (some ⟨w.heap.size, 3, none⟩) := hA 8 (by decide)
    rw [h8]
    have c3 := HC.out W hI 3 _ rfl
    simp only [putR, Act.put, List.setIfInBounds_toArray, List.set_cons_zero, List.set_cons_succ]
    refine SOp.val (v := .int .u8 z.ev) (w' := W) (by kernel_rfl) (by go_simp) ⟨hI, upd_self _ _ _, fun _ _ _ _ _ h => h⟩
  · refine Step.mk (oi := _) rfl [(18, 9)] (fun cs b h => by cases h) (by kernel_rfl) (fun vs W hI hA => ?_)
    simp only [List.map]
    have h9 : vs 9 = .int .u8 z.ev := hA 9 (by decide)
    rw [h9]
    simp only [putR, Act.put, List.setIfInBounds_toArray, List.set_cons_zero, List.set_cons_succ]
    refine SOp.val (v := .int .i64 z.ev) (w' := W) (by kernel_rfl) (by go_simp; exact HQ.out) ⟨hI, upd_self _ _ _, fun _ _ _ _ _ h => h⟩
  · refine Step.mk (oi := _) rfl [(16, 7), (19, 10)] (fun cs b h => by cases h) (by kernel_rfl) (fun vs W hI hA => ?_)
    simp only [List.map]
    have h10 : vs 10 = .int .i64 z.ev := hA 10 (by decide)
    rw [h10]
    obtain ⟨e0, hP⟩ := hA 7 (by decide)
    rw [e0]
    simp only [putR, Act.put, List.setIfInBounds_toArray, List.set_cons_zero, List.set_cons_succ]
    refine SOp.enter (f := 18) (args := #[pt p, .int .i64 ((z.ev : Int))]) (by kernel_rfl) (by go_simp) ((pen_num p (([] ++ numL (z.item)) ++ numL (incS z.node)) ((true && numB (z.item)) && numB (incS z.node)) ((z.ev : Int)) W hP (by simp only [List.length_append, List.length_nil]; have := HL.out; omega)).mono ?_)
    rintro e w1 ⟨rfl, hb, hP1⟩
    refine ⟨pt p, rfl, hI.trans hb, ⟨upd_self _ _ _, hP1⟩, ?_⟩
    intro j vs' a1 a2 a3 a4
    exact twafKeep [] (i := 11) (by decide) j vs' a1 a2 a3 (by rfl) a4
  · refine Step.mk (oi := _) rfl [] (fun cs b h => by cases h) (by kernel_rfl) (fun vs W hI hA => ?_)
    simp only [List.map]
    simp only [putR]
    refine SOp.val (v := .pointer (some ⟨w.heap.size, 4, none⟩)) (w' := W) (by kernel_rfl) (by go_simp) ⟨hI, upd_self _ _ _, fun _ _ _ _ _ h => h⟩
  · refine Step.mk (oi := _) rfl [(21, 12)] (fun cs b h => by cases h) (by kernel_rfl) (fun vs W hI hA => ?_)
    simp only [List.map]
    have h12 : vs 12 = .pointer (some ⟨w.heap.size, 4, none⟩) := hA 12 (by decide)
    rw [h12]
    have c4 := HC.out W hI 4 _ rfl
    simp only [putR, Act.put, List.setIfInBounds_toArray, List.set_cons_zero, List.set_cons_succ]
    refine SOp.val (v := .string z.key) (w' := W) (by kernel_rfl) (by go_simp) ⟨hI, upd_self _ _ _, fun _ _ _ _ _ h => h⟩
  · refine Step.mk (oi := _) rfl [(20, 11), (22, 13)] (fun cs b h => by cases h) (by kernel_rfl) (fun vs W hI hA => ?_)
    simp only [List.map]
    have h13 : vs 13 = .string z.key := hA 13 (by decide)
    rw [h13]
    obtain ⟨e0, hP⟩ := hA 11 (by decide)
    rw [e0]
    simp only [putR, Act.put, List.setIfInBounds_toArray, List.set_cons_zero, List.set_cons_succ]
    refine SOp.enter (f := 40) (args := #[pt p, .string z.key]) (by kernel_rfl) (by go_simp) ((pen_text p ((([] ++ numL (z.item)) ++ numL (incS z.node)) ++ numL ((z.ev : Int))) (((true && numB (z.item)) && numB (incS z.node)) && numB ((z.ev : Int))) z.key W hP (by simp only [List.length_append, List.length_nil]; have := HL.out; omega) (by have := HL.out; omega)).mono ?_)
    rintro e w1 ⟨rfl, hb, hP1⟩
    refine ⟨pt p, rfl, hI.trans hb, ⟨upd_self _ _ _, hP1⟩, ?_⟩
    intro j vs' a1 a2 a3 a4
    exact twafKeep [] (i := 14) (by decide) j vs' a1 a2 a3 (by rfl) a4
  · refine Step.mk (oi := _) rfl [] (fun cs b h => by cases h) (by kernel_rfl) (fun vs W hI hA => ?_)
    simp only [List.map]
    simp only [putR]
    refine SOp.val (v := .pointer (some ⟨w.heap.size, 5, none⟩)) (w' := W) (by kernel_rfl) (by go_simp) ⟨hI, upd_self _ _ _, fun _ _ _ _ _ h => h⟩
  · refine Step.mk (oi := _) rfl [(24, 15)] (fun cs b h => by cases h) (by kernel_rfl) (fun vs W hI hA => ?_)
    simp only [List.map]
    have h15 : vs 15 = .pointer (some ⟨w.heap.size, 5, none⟩) := hA 15 (by decide)
    rw [h15]
    have c5 := HC.out W hI 5 _ rfl
    simp only [putR, Act.put, List.setIfInBounds_toArray, List.set_cons_zero, List.set_cons_succ]
    refine SOp.val (v := .int .i64 z.due) (w' := W) (by kernel_rfl) (by go_simp) ⟨hI, upd_self _ _ _, fun _ _ _ _ _ h => h⟩
  · refine Step.mk (oi := _) rfl [(23, 14), (25, 16)] (fun cs b h => by cases h) (by kernel_rfl) (fun vs W hI hA => ?_)
    simp only [List.map]
    have h16 : vs 16 = .int .i64 z.due := hA 16 (by decide)
    rw [h16]
    obtain ⟨e0, hP⟩ := hA 14 (by decide)
    rw [e0]
    simp only [putR, Act.put, List.setIfInBounds_toArray, List.set_cons_zero, List.set_cons_succ]
    refine SOp.enter (f := 18) (args := #[pt p, .int .i64 (z.due)]) (by kernel_rfl) (by go_simp) ((pen_num p (((([] ++ numL (z.item)) ++ numL (incS z.node)) ++ numL ((z.ev : Int))) ++ txt z.key) ((((true && numB (z.item)) && numB (incS z.node)) && numB ((z.ev : Int))) && decide (z.key.size ≤ 13)) (z.due) W hP (by simp only [List.length_append, List.length_nil]; have := HL.out; omega)).mono ?_)
    rintro e w1 ⟨rfl, hb, hP1⟩
    refine ⟨pt p, rfl, hI.trans hb, ⟨upd_self _ _ _, hP1⟩, ?_⟩
    intro j vs' a1 a2 a3 a4
    exact twafKeep [] (i := 17) (by decide) j vs' a1 a2 a3 (by rfl) a4
  · refine Step.mk (oi := _) rfl [] (fun cs b h => by cases h) (by kernel_rfl) (fun vs W hI hA => ?_)
    simp only [List.map]
    simp only [putR]
    refine SOp.val (v := .int .i64 (b2n false)) (w' := W) (by kernel_rfl) (by first | (go_simp; done) | (go_simp; rfl)) ⟨hI, upd_self _ _ _, fun _ _ _ _ _ h => h⟩
  · refine Step.mk (oi := _) rfl [(26, 17), (27, 18)] (fun cs b h => by cases h) (by kernel_rfl) (fun vs W hI hA => ?_)
    simp only [List.map]
    have h18 : vs 18 = .int .i64 (b2n false) := hA 18 (by decide)
    rw [h18]
    obtain ⟨e0, hP⟩ := hA 17 (by decide)
    rw [e0]
    simp only [putR, Act.put, List.setIfInBounds_toArray, List.set_cons_zero, List.set_cons_succ]
    refine SOp.enter (f := 18) (args := #[pt p, .int .i64 (b2n false)]) (by kernel_rfl) (by go_simp) ((pen_num p ((((([] ++ numL (z.item)) ++ numL (incS z.node)) ++ numL ((z.ev : Int))) ++ txt z.key) ++ numL (z.due)) (((((true && numB (z.item)) && numB (incS z.node)) && numB ((z.ev : Int))) && decide (z.key.size ≤ 13)) && numB (z.due)) (b2n false) W hP (by simp only [List.length_append, List.length_nil]; have := HL.out; omega)).mono ?_)
    rintro e w1 ⟨rfl, hb, hP1⟩
    refine ⟨pt p, rfl, hI.trans hb, ⟨upd_self _ _ _, hP1⟩, ?_⟩
    intro j vs' a1 a2 a3 a4
    exact twafKeep [] (i := 19) (by decide) j vs' a1 a2 a3 (by rfl) a4
  · intro vs V hI hφ
    obtain ⟨e0, hP⟩ := hφ 19 (fun k _ => by simp [twafKill])
    clear hφ e0
    simp only [putAll, Act.put, List.setIfInBounds_toArray, List.set_cons_zero, List.set_cons_succ]
    have HB2 := Lib.hid hI
    have HP2 := Lib.hid hP
    clear hI hP
    go_upto_region 5 with fail
    refine wp_region_asrt (by kernel_rfl) (PtJ p (w.alloc (.cells #[.int .i64 z.id, .int .i64 z.item, .int .i64 z.node, .int .u8 z.ev, .string z.key, .int .i64 z.due, .bool false] 55)).drew (((((([] ++ numL (z.item)) ++ numL (incS z.node)) ++ numL ((z.ev : Int))) ++ txt z.key) ++ numL (z.due)) ++ numL (b2n false)) ((((((true && numB (z.item)) && numB (incS z.node)) && numB ((z.ev : Int))) && decide (z.key.size ≤ 13)) && numB (z.due)) && numB (b2n false))) (twaf2F w.heap.size z k ln) twaf2Dep twaf2Need twaf2Anc twaf2Kill 13 [some 29, some 30, some 31, some 32, some 33, some 34, some 35, some 36, some 37, some 38, some 39, some 4, some 5] rfl rfl (by kernel_rfl) twaf2Dep_anc ⟨HB2.out.trans (But.drewN p V 1), HP2.out⟩ (fun j h => twaf2Anc_out h) (fun j h => by
        match j, h with
        | _ + 13, _ => trivial) (fun j h => twaf2Dep_out h) ⟨?_, ?_, ?_, ?_, ?_, ?_, ?_, ?_, ?_, ?_, ?_, ?_, ?_, trivial⟩ ?_
    · refine Step.mk (oi := _) rfl [] (fun cs b h => by cases h) (by kernel_rfl) (fun vs W hI hA => ?_)
      simp only [List.map]
      simp only [putR]
      refine SOp.val (v := .pointer (some ⟨w.heap.size, 0, none⟩)) (w' := W) (by kernel_rfl) (by go_simp) ⟨hI, upd_self _ _ _, fun _ _ _ _ _ h => h⟩
    · refine Step.mk (oi := _) rfl [(29, 0)] (fun cs b h => by cases h) (by kernel_rfl) (fun vs W hI hA => ?_)
      simp only [List.map]
      have h0 : vs 0 = .pointer (some ⟨w.heap.size, 0, none⟩) := hA 0 (by decide)
      rw [h0]
      have c0 := HC.out W hI.1 0 _ rfl
      simp only [putR, Act.put, List.setIfInBounds_toArray, List.set_cons_zero, List.set_cons_succ]
      refine SOp.val (v := .int .i64 z.id) (w' := W) (by kernel_rfl) (by go_simp) ⟨hI, upd_self _ _ _, fun _ _ _ _ _ h => h⟩
    · refine Step.mk (oi := _) rfl [(30, 1)] (fun cs b h => by cases h) (by kernel_rfl) (fun vs W hI hA => ?_)
      simp only [List.map]
      have h1 : vs 1 = .int .i64 z.id := hA 1 (by decide)
      rw [h1]
      simp only [putR, Act.put, List.setIfInBounds_toArray, List.set_cons_zero, List.set_cons_succ]
      refine SOp.enter (f := 41) (args := #[.int .u8 119, .int .i64 z.id]) (by kernel_rfl) (by go_simp) ((id_any 119 z.id W).mono ?_)
      rintro e w1 ⟨rfl, hb⟩
      exact ⟨strL' (idB 119 z.id), rfl, ⟨hI.1.trans (But.of_below hb), hI.2.keptB hb⟩, upd_self _ _ _, fun _ _ _ _ _ h => twaf2F_mono hb h⟩
    · refine Step.mk (oi := _) rfl [] (fun cs b h => by cases h) (by kernel_rfl) (fun vs W hI hA => ?_)
      simp only [List.map]
      simp only [putR]
      refine SOp.val (v := .pointer (some ⟨w.heap.size, 0, none⟩)) (w' := W) (by kernel_rfl) (by go_simp) ⟨hI, upd_self _ _ _, fun _ _ _ _ _ h => h⟩
    · refine Step.mk (oi := _) rfl [(32, 3)] (fun cs b h => by cases h) (by kernel_rfl) (fun vs W hI hA => ?_)
      simp only [List.map]
      have h3 : vs 3 = .pointer (some ⟨w.heap.size, 0, none⟩) := hA 3 (by decide)
      rw [h3]
      have c0 := HC.out W hI.1 0 _ rfl
      simp only [putR, Act.put, List.setIfInBounds_toArray, List.set_cons_zero, List.set_cons_succ]
      refine SOp.val (v := .int .i64 z.id) (w' := W) (by kernel_rfl) (by go_simp) ⟨hI, upd_self _ _ _, fun _ _ _ _ _ h => h⟩
    · refine Step.mk (oi := _) rfl [(33, 4)] (fun cs b h => by cases h) (by kernel_rfl) (fun vs W hI hA => ?_)
      simp only [List.map]
      have h4 : vs 4 = .int .i64 z.id := hA 4 (by decide)
      rw [h4]
      simp only [putR, Act.put, List.setIfInBounds_toArray, List.set_cons_zero, List.set_cons_succ]
      refine SOp.enter (f := 42) (args := #[.int .i64 z.id]) (by kernel_rfl) (by go_simp) ((known_k W HK.out).mono ?_)
      rintro e w1 ⟨rfl, hb⟩
      exact ⟨.bool k, rfl, ⟨hI.1.trans (But.of_below hb), hI.2.keptB hb⟩, upd_self _ _ _, fun _ _ _ _ _ h => twaf2F_mono hb h⟩
    · refine Step.mk (oi := _) rfl [(34, 5)] (fun cs b h => by cases h) (by kernel_rfl) (fun vs W hI hA => ?_)
      simp only [List.map]
      have h5 : vs 5 = .bool k := hA 5 (by decide)
      rw [h5]
      simp only [putR, Act.put, List.setIfInBounds_toArray, List.set_cons_zero, List.set_cons_succ]
      refine SOp.val (v := .bool k) (w' := W) (by kernel_rfl) (by go_simp) ⟨hI, upd_self _ _ _, fun _ _ _ _ _ h => h⟩
    · refine Step.mk (oi := _) rfl [(35, 6)] (fun cs b h => by cases h) (by kernel_rfl) (fun vs W hI hA => ?_)
      simp only [List.map]
      have h6 : vs 6 = .bool k := hA 6 (by decide)
      rw [h6]
      cases k
      · simp only [putR, Act.put, List.setIfInBounds_toArray, List.set_cons_zero, List.set_cons_succ]
        exact SOp.skipped (by kernel_rfl) ⟨hI, upd_self _ _ _, fun _ _ _ _ _ h => h⟩
      · skip
        try simp only [cond]
        simp only [putR, Act.put, List.setIfInBounds_toArray, List.set_cons_zero, List.set_cons_succ]
        refine SOp.val (v := .pointer (some ⟨w.heap.size, 2, none⟩)) (w' := W) (by kernel_rfl) (by go_simp) ⟨hI, upd_self _ _ _, fun _ _ _ _ _ h => h⟩
    · refine Step.mk (oi := _) rfl [(36, 7), (35, 6)] (fun cs b h => by cases h) (by kernel_rfl) (fun vs W hI hA => ?_)
      simp only [List.map]
      have h7 : vs 7 = cond k (.pointer (some ⟨w.heap.size, 2, none⟩)) undef := hA 7 (by decide)
      have h6 : vs 6 = .bool k := hA 6 (by decide)
      rw [h7, h6]
      have c2 := HC.out W hI.1 2 _ rfl
      cases k
      · simp only [putR, Act.put, List.setIfInBounds_toArray, List.set_cons_zero, List.set_cons_succ]
        exact SOp.skipped (by kernel_rfl) ⟨hI, upd_self _ _ _, fun _ _ _ _ _ h => h⟩
      · skip
        try simp only [cond]
        simp only [putR, Act.put, List.setIfInBounds_toArray, List.set_cons_zero, List.set_cons_succ]
        refine SOp.val (v := .int .i64 z.node) (w' := W) (by kernel_rfl) (by go_simp) ⟨hI, upd_self _ _ _, fun _ _ _ _ _ h => h⟩
    · refine Step.mk (oi := _) rfl [(37, 8), (35, 6)] (fun cs b h => by cases h) (by kernel_rfl) (fun vs W hI hA => ?_)
      simp only [List.map]
      have h8 : vs 8 = cond k (.int .i64 z.node) undef := hA 8 (by decide)
      have h6 : vs 6 = .bool k := hA 6 (by decide)
      rw [h8, h6]
      cases k
      · simp only [putR, Act.put, List.setIfInBounds_toArray, List.set_cons_zero, List.set_cons_succ]
        exact SOp.skipped (by kernel_rfl) ⟨hI, upd_self _ _ _, fun _ _ _ _ _ h => h⟩
      · skip
        try simp only [cond]
        simp only [putR, Act.put, List.setIfInBounds_toArray, List.set_cons_zero, List.set_cons_succ]
        refine SOp.val (v := .bool ln) (w' := W) (by kernel_rfl) (by go_simp <;> first | rw [HLN.out] | exact congrArg _ HLN.out) ⟨hI, upd_self _ _ _, fun _ _ _ _ _ h => h⟩
    · refine Step.mk (oi := _) rfl [(35, 6), (38, 9)] (fun cs b h => by cases h) (by kernel_rfl) (fun vs W hI hA => ?_)
      simp only [List.map]
      have h6 : vs 6 = .bool k := hA 6 (by decide)
      have h9 : vs 9 = cond k (.bool ln) undef := hA 9 (by decide)
      rw [h6, h9]
      cases k
      · try simp only [cond]
        simp only [putR, Act.put, List.setIfInBounds_toArray, List.set_cons_zero, List.set_cons_succ]
        refine SOp.val (v := .bool false) (w' := W) (by kernel_rfl) (by go_simp) ⟨hI, upd_self _ _ _, fun _ _ _ _ _ h => h⟩
      · skip
        try simp only [cond]
        simp only [putR, Act.put, List.setIfInBounds_toArray, List.set_cons_zero, List.set_cons_succ]
        refine SOp.val (v := .bool ln) (w' := W) (by kernel_rfl) (by go_simp) ⟨hI, upd_self _ _ _, fun _ _ _ _ _ h => h⟩
    · refine Step.mk (oi := _) rfl [(31, 2)] (fun cs b h => by cases h) (by kernel_rfl) (fun vs W hI hA => ?_)
      simp only [List.map]
      have h2 : vs 2 = strL' (idB 119 z.id) := hA 2 (by decide)
      rw [h2]
      simp only [putR, Act.put, List.setIfInBounds_toArray, List.set_cons_zero, List.set_cons_succ]
      refine SOp.val (v := strL' (idB 119 z.id)) (w' := W) (by kernel_rfl) (by go_simp) ⟨hI, upd_self _ _ _, fun _ _ _ _ _ h => h⟩
    · refine Step.mk (oi := _) rfl [(39, 10)] (fun cs b h => by cases h) (by kernel_rfl) (fun vs W hI hA => ?_)
      simp only [List.map]
      have h10 : vs 10 = .bool (k && ln) := hA 10 (by decide)
      rw [h10]
      simp only [putR, Act.put, List.setIfInBounds_toArray, List.set_cons_zero, List.set_cons_succ]
      refine SOp.val (v := .bool (k && ln)) (w' := W) (by kernel_rfl) (by go_simp) ⟨hI, upd_self _ _ _, fun _ _ _ _ _ h => h⟩
    · intro vs2 V2 hI2 hφ2
      have q4 : vs2 11 = strL' (idB 119 z.id) := hφ2 11 (fun k _ => by rfl)
      have q5 : vs2 12 = .bool (k && ln) := hφ2 12 (fun k _ => by rfl)
      clear hφ2
      simp only [putAll, Act.put, List.setIfInBounds_toArray, List.set_cons_zero, List.set_cons_succ]
      rw [q4, q5]
      have HI2 := Lib.hid hI2
      clear hI2 q4 q5
      go_wp2
      go_ret2
      refine ⟨by show Ending.returned (.tuple #[strL' (idB 119 z.id), .bool (k && ln)]) = _; rfl, HW.out.trans HI2.out.1, ?_⟩
      have := HI2.out.2
      simpa only [List.nil_append, List.append_assoc, Bool.true_and, Bool.and_assoc, shortB] using this
/-- what each operation of the region leaves -/
def twatF (p b : Nat) (z : Wa) : Nat → Value → List Value → World → Prop
  | 0, u, _, _ => u = pt p
  | 1, u, _, _ => u = .pointer (some ⟨b, 1, none⟩)
  | 2, u, _, _ => u = .int .i64 z.item
  | 3, u, _, w => u = pt p ∧ Pn w p ([] ++ numL (z.item)) (true && numB (z.item))
  | 4, u, _, _ => u = .pointer (some ⟨b, 2, none⟩)
  | 5, u, _, _ => u = .int .i64 z.node
  | 6, u, _, _ => u = .int .i64 (incS z.node)
  | 7, u, _, w => u = pt p ∧ Pn w p (([] ++ numL (z.item)) ++ numL (incS z.node)) ((true && numB (z.item)) && numB (incS z.node))
  | 8, u, _, _ => u = .pointer (some ⟨b, 3, none⟩)
  | 9, u, _, _ => u = .int .u8 z.ev
  | 10, u, _, _ => u = .int .i64 z.ev
  | 11, u, _, w => u = pt p ∧ Pn w p ((([] ++ numL (z.item)) ++ numL (incS z.node)) ++ numL ((z.ev : Int))) (((true && numB (z.item)) && numB (incS z.node)) && numB ((z.ev : Int)))
  | 12, u, _, _ => u = .pointer (some ⟨b, 4, none⟩)
  | 13, u, _, _ => u = .string z.key
  | 14, u, _, w => u = pt p ∧ Pn w p (((([] ++ numL (z.item)) ++ numL (incS z.node)) ++ numL ((z.ev : Int))) ++ txt z.key) ((((true && numB (z.item)) && numB (incS z.node)) && numB ((z.ev : Int))) && decide (z.key.size ≤ 13))
  | 15, u, _, _ => u = .pointer (some ⟨b, 5, none⟩)
  | 16, u, _, _ => u = .int .i64 z.due
  | 17, u, _, w => u = pt p ∧ Pn w p ((((([] ++ numL (z.item)) ++ numL (incS z.node)) ++ numL ((z.ev : Int))) ++ txt z.key) ++ numL (z.due)) (((((true && numB (z.item)) && numB (incS z.node)) && numB ((z.ev : Int))) && decide (z.key.size ≤ 13)) && numB (z.due))
  | 18, u, _, _ => u = .int .i64 (b2n true)
  | 19, u, _, w => u = pt p ∧ Pn w p (((((([] ++ numL (z.item)) ++ numL (incS z.node)) ++ numL ((z.ev : Int))) ++ txt z.key) ++ numL (z.due)) ++ numL (b2n true)) ((((((true && numB (z.item)) && numB (incS z.node)) && numB ((z.ev : Int))) && decide (z.key.size ≤ 13)) && numB (z.due)) && numB (b2n true))
  | 20, _, _, w => Pn w p [] true
  | _, _, _, _ => True
def twatAnc (i : Nat) : List Nat := ([[], [], [1], [0, 1, 2], [], [4], [4, 5], [0, 1, 2, 3, 4, 5, 6], [], [8], [8, 9], [0, 1, 2, 3, 4, 5, 6, 7, 8, 9, 10], [], [12], [0, 1, 2, 3, 4, 5, 6, 7, 8, 9, 10, 11, 12, 13], [], [15], [0, 1, 2, 3, 4, 5, 6, 7, 8, 9, 10, 11, 12, 13, 14, 15, 16], [], [0, 1, 2, 3, 4, 5, 6, 7, 8, 9, 10, 11, 12, 13, 14, 15, 16, 17, 18]] : List (List Nat)).getD i []
def twatNeed (i : Nat) : List Nat := ([[], [], [1], [0, 2, 20], [], [4], [5], [3, 6], [], [8], [9], [7, 10], [], [12], [11, 13], [], [15], [14, 16], [], [17, 18]] : List (List Nat)).getD i []
def twatDep (i : Nat) : List Nat := ([[], [], [], [], [], [], [], [], [], [], [], [], [], [], [], [], [], [], [], []] : List (List Nat)).getD i []
def twatKill (i j : Nat) : Bool := (i == 7 && j == 3) || (i == 11 && j == 3) || (i == 11 && j == 7) || (i == 14 && j == 3) || (i == 14 && j == 7) || (i == 14 && j == 11) || (i == 17 && j == 3) || (i == 17 && j == 7) || (i == 17 && j == 11) || (i == 17 && j == 14) || (i == 19 && j == 3) || (i == 19 && j == 7) || (i == 19 && j == 11) || (i == 19 && j == 14) || (i == 19 && j == 17) || (i == 3 && j == 20) || (i == 7 && j == 20) || (i == 11 && j == 20) || (i == 14 && j == 20) || (i == 17 && j == 20) || (i == 19 && j == 20)
def twatPure (j : Nat) : Bool := !([3, 7, 11, 14, 17, 19, 20].contains j)
theorem twatF_pure {j : Nat} {u : Value} {ds : List Value} {w w' : World} {p b : Nat} {z : Wa} (hp : twatPure j = true) (h : twatF p b z j u ds w) : twatF p b z j u ds w' := by
  match j with
  | 0 => exact h
  | 1 => exact h
  | 2 => exact h
  | 3 => exact absurd hp (by decide)
  | 4 => exact h
  | 5 => exact h
  | 6 => exact h
  | 7 => exact absurd hp (by decide)
  | 8 => exact h
  | 9 => exact h
  | 10 => exact h
  | 11 => exact absurd hp (by decide)
  | 12 => exact h
  | 13 => exact h
  | 14 => exact absurd hp (by decide)
  | 15 => exact h
  | 16 => exact h
  | 17 => exact absurd hp (by decide)
  | 18 => exact h
  | 19 => exact absurd hp (by decide)
  | 20 => exact absurd hp (by decide)
  | _ + 21 => trivial
theorem twatF_mono {j : Nat} {u : Value} {ds : List Value} {w w' : World} {p b : Nat} {z : Wa} (hb : Below w.heap.size w w') (h : twatF p b z j u ds w) : twatF p b z j u ds w' := by
  match j with
  | 0 => exact h
  | 1 => exact h
  | 2 => exact h
  | 3 => exact ⟨h.1, h.2.keptB hb⟩
  | 4 => exact h
  | 5 => exact h
  | 6 => exact h
  | 7 => exact ⟨h.1, h.2.keptB hb⟩
  | 8 => exact h
  | 9 => exact h
  | 10 => exact h
  | 11 => exact ⟨h.1, h.2.keptB hb⟩
  | 12 => exact h
  | 13 => exact h
  | 14 => exact ⟨h.1, h.2.keptB hb⟩
  | 15 => exact h
  | 16 => exact h
  | 17 => exact ⟨h.1, h.2.keptB hb⟩
  | 18 => exact h
  | 19 => exact ⟨h.1, h.2.keptB hb⟩
  | 20 => exact h.keptB hb
  | _ + 21 => trivial
theorem twatKeep (x : List Nat) {i : Nat} (h : ((List.range 21).all fun j => twatPure j || j == i || twatKill i j || (twatAnc j).contains i || x.contains j) = true) {w w' : World} {p b : Nat} {z : Wa} : ∀ j (vs' : Nat → Value), j ≠ i → twatKill i j = false → (twatAnc j).contains i = false → (x.contains j = false) →
    asrt (twatF p b z) twatDep j vs' w → asrt (twatF p b z) twatDep j vs' w' := by
  intro j vs' h1 h2 h3 h0 h4
  by_cases hj : j < 21
  · have := List.all_eq_true.1 h j (List.mem_range.2 hj)
    rw [h2, h3, h0] at this
    simp only [Bool.or_false, Bool.or_eq_true, beq_iff_eq] at this
    rcases this with h5 | h5
    · exact twatF_pure h5 h4
    · exact absurd h5 h1
  · exact twatF_pure (by unfold twatPure; simp; omega) h4
theorem twatAnc_out {j : Nat} (h : 20 ≤ j) : twatAnc j = [] := by
  unfold twatAnc
  rw [List.getD_eq_getElem?_getD, List.getElem?_eq_none (by simpa using h)]
  rfl
theorem twatDep_out {j : Nat} (h : 20 ≤ j) : twatDep j = [] := by
  unfold twatDep
  rw [List.getD_eq_getElem?_getD, List.getElem?_eq_none (by simpa using h)]
  rfl
theorem twatDep_anc : ∀ j, ∀ d ∈ twatDep j, d ∈ twatAnc j := by
  intro j d hd
  by_cases h : j < 20
  · exact (by decide : ∀ j, j < 20 → ∀ d ∈ twatDep j, d ∈ twatAnc j) j h d hd
  · rw [twatDep_out (by omega)] at hd
    cases hd
/-- what each operation of the region leaves -/
def twat2F (b : Nat) (z : Wa) (k ln : Bool) : Nat → Value → List Value → World → Prop
  | 0, u, _, _ => u = .pointer (some ⟨b, 0, none⟩)
  | 1, u, _, _ => u = .int .i64 z.id
  | 2, u, _, _ => u = strL' (idB 119 z.id)
  | 3, u, _, _ => u = .pointer (some ⟨b, 0, none⟩)
  | 4, u, _, _ => u = .int .i64 z.id
  | 5, u, _, _ => u = .bool k
  | 6, u, _, _ => u = .bool k
  | 7, u, _, _ => u = cond k (.pointer (some ⟨b, 2, none⟩)) undef
  | 8, u, _, _ => u = cond k (.int .i64 z.node) undef
  | 9, u, _, _ => u = cond k (.bool ln) undef
  | 10, u, _, _ => u = .bool (k && ln)
  | 11, u, _, _ => u = strL' (idB 119 z.id)
  | 12, u, _, _ => u = .bool (k && ln)
  | _, _, _, _ => True
def twat2Anc (i : Nat) : List Nat := ([[], [0], [0, 1], [], [3], [0, 1, 2, 3, 4], [0, 1, 2, 3, 4, 5], [0, 1, 2, 3, 4, 5, 6], [0, 1, 2, 3, 4, 5, 6, 7], [0, 1, 2, 3, 4, 5, 6, 7, 8], [0, 1, 2, 3, 4, 5, 6, 7, 8, 9], [0, 1, 2, 3, 4, 5, 6], [0, 1, 2, 3, 4, 5, 6, 7, 8, 9, 10, 11]] : List (List Nat)).getD i []
def twat2Need (i : Nat) : List Nat := ([[], [0], [1], [], [3], [4], [5], [6], [7, 6], [8, 6], [6, 9], [2], [10]] : List (List Nat)).getD i []
def twat2Dep (i : Nat) : List Nat := ([[], [], [], [], [], [], [], [], [], [], [], [], []] : List (List Nat)).getD i []
def twat2Kill (_ _ : Nat) : Bool := false
def twat2Pure (j : Nat) : Bool := !([].contains j)
theorem twat2F_pure {j : Nat} {u : Value} {ds : List Value} {w w' : World} {b : Nat} {z : Wa} {k ln : Bool} (hp : twat2Pure j = true) (h : twat2F b z k ln j u ds w) : twat2F b z k ln j u ds w' := by
  match j with
  | 0 => exact h
  | 1 => exact h
  | 2 => exact h
  | 3 => exact h
  | 4 => exact h
  | 5 => exact h
  | 6 => exact h
  | 7 => exact h
  | 8 => exact h
  | 9 => exact h
  | 10 => exact h
  | 11 => exact h
  | 12 => exact h
  | _ + 13 => trivial
theorem twat2F_mono {j : Nat} {u : Value} {ds : List Value} {w w' : World} {b : Nat} {z : Wa} {k ln : Bool} (_hb : Below w.heap.size w w') (h : twat2F b z k ln j u ds w) : twat2F b z k ln j u ds w' := by
  match j with
  | 0 => exact h
  | 1 => exact h
  | 2 => exact h
  | 3 => exact h
  | 4 => exact h
  | 5 => exact h
  | 6 => exact h
  | 7 => exact h
  | 8 => exact h
  | 9 => exact h
  | 10 => exact h
  | 11 => exact h
  | 12 => exact h
  | _ + 13 => trivial
theorem twat2Keep (x : List Nat) {i : Nat} (h : ((List.range 13).all fun j => twat2Pure j || j == i || twat2Kill i j || (twat2Anc j).contains i || x.contains j) = true) {w w' : World} {b : Nat} {z : Wa} {k ln : Bool} : ∀ j (vs' : Nat → Value), j ≠ i → twat2Kill i j = false → (twat2Anc j).contains i = false → (x.contains j = false) →
    asrt (twat2F b z k ln) twat2Dep j vs' w → asrt (twat2F b z k ln) twat2Dep j vs' w' := by
  intro j vs' h1 h2 h3 h0 h4
  by_cases hj : j < 13
  · have := List.all_eq_true.1 h j (List.mem_range.2 hj)
    rw [h2, h3, h0] at this
    simp only [Bool.or_false, Bool.or_eq_true, beq_iff_eq] at this
    rcases this with h5 | h5
    · exact twat2F_pure h5 h4
    · exact absurd h5 h1
  · exact twat2F_pure (by unfold twat2Pure; simp) h4
theorem twat2Anc_out {j : Nat} (h : 13 ≤ j) : twat2Anc j = [] := by
  unfold twat2Anc
  rw [List.getD_eq_getElem?_getD, List.getElem?_eq_none (by simpa using h)]
  rfl
theorem twat2Dep_out {j : Nat} (h : 13 ≤ j) : twat2Dep j = [] := by
  unfold twat2Dep
  rw [List.getD_eq_getElem?_getD, List.getElem?_eq_none (by simpa using h)]
  rfl
theorem twat2Dep_anc : ∀ j, ∀ d ∈ twat2Dep j, d ∈ twat2Anc j := by
  intro j d hd
  by_cases h : j < 13
  · exact (by decide : ∀ j, j < 13 → ∀ d ∈ twat2Dep j, d ∈ twat2Anc j) j h d hd
  · rw [twat2Dep_out (by omega)] at hd
    cases hd
set_option maxRecDepth 100000 in
set_option maxHeartbeats 4000000 in
theorem tellWatch_t (z : Wa) (p : Nat) (w : World) (h : Pn w p [] true) (h1 : z.key.size ≤ 140737488351232) (h3 : z.ev < 256) :
    Calls Tryz.prog 25 #[.agg #[.int .i64 z.id, .int .i64 z.item, .int .i64 z.node, .int .u8 z.ev, .string z.key, .int .i64 z.due, .bool true], pt p] w fun e w' => e = .returned (.tuple #[strL' (idB 119 z.id), .bool ((knownB z.id && lessB z.node))]) ∧ But p w w' ∧ Pn w' p (numL z.item ++ (numL (incS z.node) ++ (numL z.ev ++ (txt z.key ++ (numL z.due ++ numL (b2n true)))))) ((numB z.item && (numB (incS z.node) && (numB z.ev && (shortB z.key && (numB z.due && numB (b2n true))))))) := by
  have HQ : Hid (IntKind.i64.wrap (z.ev : Int) = z.ev) := Lib.hid (wrap_byte h3)
  have hL : z.key.size ≤ 140737488351232 ∧ (txt z.key).length ≤ z.key.size + 10 ∧ (numL z.item).length ≤ 10 ∧ (numL (incS z.node)).length ≤ 10 ∧ (numL z.ev).length ≤ 10 ∧ (numL z.due).length ≤ 10 := ⟨h1, txt_len _ h1, numL_len _, numL_len _, numL_len _, numL_len _⟩
  have HL := Lib.hid hL
  have HP0 : Hid (Pn (w.alloc (.cells #[.int .i64 z.id, .int .i64 z.item, .int .i64 z.node, .int .u8 z.ev, .string z.key, .int .i64 z.due, .bool true] 55)).drew p [] true) := Lib.hid (h.keptB (((Below.refl _ _).alloc (Nat.le_refl _) _).drew))
  have HC := Lib.hid (box_cells (w := w) (p := p) (cs := #[.int .i64 z.id, .int .i64 z.item, .int .i64 z.node, .int .u8 z.ev, .string z.key, .int .i64 z.due, .bool true]) (t := 55) h.lt)
  have HW : Hid (But p w (w.alloc (.cells #[.int .i64 z.id, .int .i64 z.item, .int .i64 z.node, .int .u8 z.ev, .string z.key, .int .i64 z.due, .bool true] 55)).drew) := (But.alloc p w _).trans (But.drewN p _ 1)
  clear h hL
  obtain ⟨k, hk⟩ : ∃ k, knownB z.id = k := ⟨_, rfl⟩
  obtain ⟨ln, hln⟩ : ∃ d, decide (z.node < 1099511627776) = d := ⟨_, rfl⟩
  rw [show lessB z.node = ln from hln, hk]
  have HK := Lib.hid hk
  have HLN := Lib.hid hln
  clear hk hln
  go_enter Tryz.func25, Tryz.ntmps25
  go_upto_region 4 with fail
  refine wp_region_asrt (by kernel_rfl) (But p (w.alloc (.cells #[.int .i64 z.id, .int .i64 z.item, .int .i64 z.node, .int .u8 z.ev, .string z.key, .int .i64 z.due, .bool true] 55)).drew) (twatF p w.heap.size z) twatDep twatNeed twatAnc twatKill 20 [some 9, some 10, some 11, some 12, some 13, some 14, some 15, some 16, some 17, some 18, some 19, some 20, some 21, some 22, some 23, some 24, some 25, some 26, some 27, some 28] rfl rfl (by kernel_rfl) twatDep_anc (But.refl _ _) (fun j h => twatAnc_out h) (fun j h => by
      by_cases e1 : j = 20
      · subst e1; exact HP0.out
      have e3 : 21 ≤ j := by omega
      match j, e3 with
      | _ + 21, _ => trivial) (fun j h => twatDep_out h) ⟨?_, ?_, ?_, ?_, ?_, ?_, ?_, ?_, ?_, ?_, ?_, ?_, ?_, ?_, ?_, ?_, ?_, ?_, ?_, ?_, trivial⟩ ?_
  · refine Step.mk (oi := _) rfl [] (fun cs b h => by cases h) (by kernel_rfl) (fun vs W hI hA => ?_)
    simp only [List.map]
    simp only [putR]
    refine SOp.val (v := pt p) (w' := W) (by kernel_rfl) (by go_simp) ⟨hI, upd_self _ _ _, fun _ _ _ _ _ h => h⟩
  · refine Step.mk (oi := _) rfl [] (fun cs b h => by cases h) (by kernel_rfl) (fun vs W hI hA => ?_)
    simp only [List.map]
    simp only [putR]
    refine SOp.val (v := .pointer (some ⟨w.heap.size, 1, none⟩)) (w' := W) (by kernel_rfl) (by go_simp) ⟨hI, upd_self _ _ _, fun _ _ _ _ _ h => h⟩
  · refine Step.mk (oi := _) rfl [(10, 1)] (fun cs b h => by cases h) (by kernel_rfl) (fun vs W hI hA => ?_)
    simp only [List.map]
    have h1 : vs 1 = .pointer (some ⟨w.heap.size, 1, none⟩) := hA 1 (by decide)
    rw [h1]
    have c1 := HC.out W hI 1 _ rfl
    simp only [putR, Act.put, List.setIfInBounds_toArray, List.set_cons_zero, List.set_cons_succ]
    refine SOp.val (v := .int .i64 z.item) (w' := W) (by kernel_rfl) (by go_simp) ⟨hI, upd_self _ _ _, fun _ _ _ _ _ h => h⟩
  · refine Step.mk (oi := _) rfl [(9, 0), (11, 2)] (fun cs b h => by cases h) (by kernel_rfl) (fun vs W hI hA => ?_)
    simp only [List.map]
    have h0 : vs 0 = pt p := hA 0 (by decide)
    have h2 : vs 2 = .int .i64 z.item := hA 2 (by decide)
    rw [h0, h2]
    have hP := hA 20 (by decide)
    simp only [putR, Act.put, List.setIfInBounds_toArray, List.set_cons_zero, List.set_cons_succ]
    refine SOp.enter (f := 18) (args := #[pt p, .int .i64 (z.item)]) (by kernel_rfl) (by go_simp) ((pen_num p [] true (z.item) W hP (by simp)).mono ?_)
    rintro e w1 ⟨rfl, hb, hP1⟩
    refine ⟨pt p, rfl, hI.trans hb, ⟨upd_self _ _ _, hP1⟩, ?_⟩
    intro j vs' a1 a2 a3 a4
    exact twatKeep [] (i := 3) (by decide) j vs' a1 a2 a3 (by rfl) a4
  · refine Step.mk (oi := _) rfl [] (fun cs b h => by cases h) (by kernel_rfl) (fun vs W hI hA => ?_)
    simp only [List.map]
    simp only [putR]
    refine SOp.val (v := .pointer (some ⟨w.heap.size, 2, none⟩)) (w' := W) (by kernel_rfl) (by go_simp) ⟨hI, upd_self _ _ _, fun _ _ _ _ _ h => h⟩
  · refine Step.mk (oi := _) rfl [(13, 4)] (fun cs b h => by cases h) (by kernel_rfl) (fun vs W hI hA => ?_)
    simp only [List.map]
    have h4 : vs 4 = .pointer (some ⟨w.heap.size, 2, none⟩) := hA 4 (by decide)
    rw [h4]
    have c2 := HC.out W hI 2 _ rfl
    simp only [putR, Act.put, List.setIfInBounds_toArray, List.set_cons_zero, List.set_cons_succ]
    refine SOp.val (v := .int .i64 z.node) (w' := W) (by kernel_rfl) (by go_simp) ⟨hI, upd_self _ _ _, fun _ _ _ _ _ h => h⟩
  · refine Step.mk (oi := _) rfl [(14, 5)] (fun cs b h => by cases h) (by kernel_rfl) (fun vs W hI hA => ?_)
    simp only [List.map]
    have h5 : vs 5 = .int .i64 z.node := hA 5 (by decide)
    rw [h5]
    simp only [putR, Act.put, List.setIfInBounds_toArray, List.set_cons_zero, List.set_cons_succ]
    refine SOp.val (v := .int .i64 (incS z.node)) (w' := W) (by kernel_rfl) (by go_simp <;> first | rfl | (unfold incS; rfl)) ⟨hI, upd_self _ _ _, fun _ _ _ _ _ h => h⟩
  · refine Step.mk (oi := _) rfl [(12, 3), (15, 6)] (fun cs b h => by cases h) (by kernel_rfl) (fun vs W hI hA => ?_)
    simp only [List.map]
    have h6 : vs 6 = .int .i64 (incS z.node) := hA 6 (by decide)
    rw [h6]
    obtain ⟨e0, hP⟩ := hA 3 (by decide)
    rw [e0]
    simp only [putR, Act.put, List.setIfInBounds_toArray, List.set_cons_zero, List.set_cons_succ]
    refine SOp.enter (f := 18) (args := #[pt p, .int .i64 (incS z.node)]) (by kernel_rfl) (by go_simp) ((pen_num p ([] ++ numL (z.item)) (true && numB (z.item)) (incS z.node) W hP (by simp only [List.length_append, List.length_nil]; have := HL.out; omega)).mono ?_)
    rintro e w1 ⟨rfl, hb, hP1⟩
    refine ⟨pt p, rfl, hI.trans hb, ⟨upd_self _ _ _, hP1⟩, ?_⟩
    intro j vs' a1 a2 a3 a4
    exact twatKeep [] (i := 7) (by decide) j vs' a1 a2 a3 (by rfl) a4
  · refine Step.mk (oi := _) rfl [] (fun cs b h => by cases h) (by kernel_rfl) (fun vs W hI hA => ?_)
    simp only [List.map]
    simp only [putR]
    refine SOp.val (v := .pointer (some ⟨w.heap.size, 3, none⟩)) (w' := W) (by kernel_rfl) (by go_simp) ⟨hI, upd_self _ _ _, fun _ _ _ _ _ h => h⟩
  · refine Step.mk (oi := _) rfl [(17, 8)] (fun cs b h => by cases h) (by kernel_rfl) (fun vs W hI hA => ?_)
    simp only [List.map]
    have h8 : vs 8 = .pointer (some ⟨w.heap.size, 3, none⟩) := hA 8 (by decide)
    rw [h8]
    have c3 := HC.out W hI 3 _ rfl
    simp only [putR, Act.put, List.setIfInBounds_toArray, List.set_cons_zero, List.set_cons_succ]
    refine SOp.val (v := .int .u8 z.ev) (w' := W) (by kernel_rfl) (by go_simp) ⟨hI, upd_self _ _ _, fun _ _ _ _ _ h => h⟩
  · refine Step.mk (oi := _) rfl [(18, 9)] (fun cs b h => by cases h) (by kernel_rfl) (fun vs W hI hA => ?_)
    simp only [List.map]
    have h9 : vs 9 = .int .u8 z.ev := hA 9 (by decide)
    rw [h9]
    simp only [putR, Act.put, List.setIfInBounds_toArray, List.set_cons_zero, List.set_cons_succ]
    refine SOp.val (v := .int .i64 z.ev) (w' := W) (by kernel_rfl) (by go_simp; exact HQ.out) ⟨hI, upd_self _ _ _, fun _ _ _ _ _ h => h⟩
  · refine Step.mk (oi := _) rfl [(16, 7), (19, 10)] (fun cs b h => by cases h) (by kernel_rfl) (fun vs W hI hA => ?_)
    simp only [List.map]
    have h10 : vs 10 = .int .i64 z.ev := hA 10 (by decide)
    rw [h10]
    obtain ⟨e0, hP⟩ := hA 7 (by decide)
    rw [e0]
    simp only [putR, Act.put, List.setIfInBounds_toArray, List.set_cons_zero, List.set_cons_succ]
    refine SOp.enter (f := 18) (args := #[pt p, .int .i64 ((z.ev : Int))]) (by kernel_rfl) (by go_simp) ((pen_num p (([] ++ numL (z.item)) ++ numL (incS z.node)) ((true && numB (z.item)) && numB (incS z.node)) ((z.ev : Int)) W hP (by simp only [List.length_append, List.length_nil]; have := HL.out; omega)).mono ?_)
    rintro e w1 ⟨rfl, hb, hP1⟩
    refine ⟨pt p, rfl, hI.trans hb, ⟨upd_self _ _ _, hP1⟩, ?_⟩
    intro j vs' a1 a2 a3 a4
    exact twatKeep [] (i := 11) (by decide) j vs' a1 a2 a3 (by rfl) a4
  · refine Step.mk (oi := _) rfl [] (fun cs b h => by cases h) (by kernel_rfl) (fun vs W hI hA => ?_)
    simp only [List.map]
    simp only [putR]
    refine SOp.val (v := .pointer (some ⟨w.heap.size, 4, none⟩)) (w' := W) (by kernel_rfl) (by go_simp) ⟨hI, upd_self _ _ _, fun _ _ _ _ _ h => h⟩
  · refine Step.mk (oi := _) rfl [(21, 12)] (fun cs b h => by cases h) (by kernel_rfl) (fun vs W hI hA => ?_)
    simp only [List.map]
    have h12 : vs 12 = .pointer (some ⟨w.heap.size, 4, none⟩) := hA 12 (by decide)
    rw [h12]
    have c4 := HC.out W hI 4 _ rfl
    simp only [putR, Act.put, List.setIfInBounds_toArray, List.set_cons_zero, List.set_cons_succ]
    refine SOp.val (v := .string z.key) (w' := W) (by kernel_rfl) (by go_simp) ⟨hI, upd_self _ _ _, fun _ _ _ _ _ h => h⟩
  · refine Step.mk (oi := _) rfl [(20, 11), (22, 13)] (fun cs b h => by cases h) (by kernel_rfl) (fun vs W hI hA => ?_)
    simp only [List.map]
    have h13 : vs 13 = .string z.key := hA 13 (by decide)
    rw [h13]
    obtain ⟨e0, hP⟩ := hA 11 (by decide)
    rw [e0]
    simp only [putR, Act.put, List.setIfInBounds_toArray, List.set_cons_zero, List.set_cons_succ]
    refine SOp.enter (f := 40) (args := #[pt p, .string z.key]) (by kernel_rfl) (by go_simp) ((pen_text p ((([] ++ numL (z.item)) ++ numL (incS z.node)) ++ numL ((z.ev : Int))) (((true && numB (z.item)) && numB (incS z.node)) && numB ((z.ev : Int))) z.key W hP (by simp only [List.length_append, List.length_nil]; have := HL.out; omega) (by have := HL.out; omega)).mono ?_)
    rintro e w1 ⟨rfl, hb, hP1⟩
    refine ⟨pt p, rfl, hI.trans hb, ⟨upd_self _ _ _, hP1⟩, ?_⟩
    intro j vs' a1 a2 a3 a4
    exact twatKeep [] (i := 14) (by decide) j vs' a1 a2 a3 (by rfl) a4
  · refine Step.mk (oi := _) rfl [] (fun cs b h => by cases h) (by kernel_rfl) (fun vs W hI hA => ?_)
    simp only [List.map]
    simp only [putR]
    refine SOp.val (v := .pointer (some ⟨w.heap.size, 5, none⟩)) (w' := W) (by kernel_rfl) (by go_simp) ⟨hI, upd_self _ _ _, fun _ _ _ _ _ h => h⟩
  · refine Step.mk (oi := _) rfl [(24, 15)] (fun cs b h => by cases h) (by kernel_rfl) (fun vs W hI hA => ?_)
    simp only [List.map]
    have h15 : vs 15 = .pointer (some ⟨w.heap.size, 5, none⟩) := hA 15 (by decide)
    rw [h15]
    have c5 := HC.out W hI 5 _ rfl
    simp only [putR, Act.put, List.setIfInBounds_toArray, List.set_cons_zero, List.set_cons_succ]
    refine SOp.val (v := .int .i64 z.due) (w' := W) (by kernel_rfl) (by go_simp) ⟨hI, upd_self _ _ _, fun _ _ _ _ _ h => h⟩
  · refine Step.mk (oi := _) rfl [(23, 14), (25, 16)] (fun cs b h => by cases h) (by kernel_rfl) (fun vs W hI hA => ?_)
    simp only [List.map]
    have h16 : vs 16 = .int .i64 z.due := hA 16 (by decide)
    rw [h16]
    obtain ⟨e0, hP⟩ := hA 14 (by decide)
    rw [e0]
    simp only [putR, Act.put, List.setIfInBounds_toArray, List.set_cons_zero, List.set_cons_succ]
    refine SOp.enter (f := 18) (args := #[pt p, .int .i64 (z.due)]) (by kernel_rfl) (by go_simp) ((pen_num p (((([] ++ numL (z.item)) ++ numL (incS z.node)) ++ numL ((z.ev : Int))) ++ txt z.key) ((((true && numB (z.item)) && numB (incS z.node)) && numB ((z.ev : Int))) && decide (z.key.size ≤ 13)) (z.due) W hP (by simp only [List.length_append, List.length_nil]; have := HL.out; omega)).mono ?_)
    rintro e w1 ⟨rfl, hb, hP1⟩
    refine ⟨pt p, rfl, hI.trans hb, ⟨upd_self _ _ _, hP1⟩, ?_⟩
    intro j vs' a1 a2 a3 a4
    exact twatKeep [] (i := 17) (by decide) j vs' a1 a2 a3 (by rfl) a4
  · refine Step.mk (oi := _) rfl [] (fun cs b h => by cases h) (by kernel_rfl) (fun vs W hI hA => ?_)
    simp only [List.map]
    simp only [putR]
    refine SOp.val (v := .int .i64 (b2n true)) (w' := W) (by kernel_rfl) (by first | (go_simp; done) | (go_simp; rfl)) ⟨hI, upd_self _ _ _, fun _ _ _ _ _ h => h⟩
  · refine Step.mk (oi := _) rfl [(26, 17), (27, 18)] (fun cs b h => by cases h) (by kernel_rfl) (fun vs W hI hA => ?_)
    simp only [List.map]
    have h18 : vs 18 = .int .i64 (b2n true) := hA 18 (by decide)
    rw [h18]
    obtain ⟨e0, hP⟩ := hA 17 (by decide)
    rw [e0]
    simp only [putR, Act.put, List.setIfInBounds_toArray, List.set_cons_zero, List.set_cons_succ]
    refine SOp.enter (f := 18) (args := #[pt p, .int .i64 (b2n true)]) (by kernel_rfl) (by go_simp) ((pen_num p ((((([] ++ numL (z.item)) ++ numL (incS z.node)) ++ numL ((z.ev : Int))) ++ txt z.key) ++ numL (z.due)) (((((true && numB (z.item)) && numB (incS z.node)) && numB ((z.ev : Int))) && decide (z.key.size ≤ 13)) && numB (z.due)) (b2n true) W hP (by simp only [List.length_append, List.length_nil]; have := HL.out; omega)).mono ?_)
    rintro e w1 ⟨rfl, hb, hP1⟩
    refine ⟨pt p, rfl, hI.trans hb, ⟨upd_self _ _ _, hP1⟩, ?_⟩
    intro j vs' a1 a2 a3 a4
    exact twatKeep [] (i := 19) (by decide) j vs' a1 a2 a3 (by rfl) a4
  · intro vs V hI hφ
    obtain ⟨e0, hP⟩ := hφ 19 (fun k _ => by simp [twatKill])
    clear hφ e0
    simp only [putAll, Act.put, List.setIfInBounds_toArray, List.set_cons_zero, List.set_cons_succ]
    have HB2 := Lib.hid hI
    have HP2 := Lib.hid hP
    clear hI hP
    go_upto_region 5 with fail
    refine wp_region_asrt (by kernel_rfl) (PtJ p (w.alloc (.cells #[.int .i64 z.id, .int .i64 z.item, .int .i64 z.node, .int .u8 z.ev, .string z.key, .int .i64 z.due, .bool true] 55)).drew (((((([] ++ numL (z.item)) ++ numL (incS z.node)) ++ numL ((z.ev : Int))) ++ txt z.key) ++ numL (z.due)) ++ numL (b2n true)) ((((((true && numB (z.item)) && numB (incS z.node)) && numB ((z.ev : Int))) && decide (z.key.size ≤ 13)) && numB (z.due)) && numB (b2n true))) (twat2F w.heap.size z k ln) twat2Dep twat2Need twat2Anc twat2Kill 13 [some 29, some 30, some 31, some 32, some 33, some 34, some 35, some 36, some 37, some 38, some 39, some 4, some 5] rfl rfl (by kernel_rfl) twat2Dep_anc ⟨HB2.out.trans (But.drewN p V 1), HP2.out⟩ (fun j h => twat2Anc_out h) (fun j h => by
        match j, h with
        | _ + 13, _ => trivial) (fun j h => twat2Dep_out h) ⟨?_, ?_, ?_, ?_, ?_, ?_, ?_, ?_, ?_, ?_, ?_, ?_, ?_, trivial⟩ ?_
    · refine Step.mk (oi := _) rfl [] (fun cs b h => by cases h) (by kernel_rfl) (fun vs W hI hA => ?_)
      simp only [List.map]
      simp only [putR]
      refine SOp.val (v := .pointer (some ⟨w.heap.size, 0, none⟩)) (w' := W) (by kernel_rfl) (by go_simp) ⟨hI, upd_self _ _ _, fun _ _ _ _ _ h => h⟩
    · refine Step.mk (oi := _) rfl [(29, 0)] (fun cs b h => by cases h) (by kernel_rfl) (fun vs W hI hA => ?_)
      simp only [List.map]
      have h0 : vs 0 = .pointer (some ⟨w.heap.size, 0, none⟩) := hA 0 (by decide)
      rw [h0]
      have c0 := HC.out W hI.1 0 _ rfl
      simp only [putR, Act.put, List.setIfInBounds_toArray, List.set_cons_zero, List.set_cons_succ]
      refine SOp.val (v := .int .i64 z.id) (w' := W) (by kernel_rfl) (by go_simp) ⟨hI, upd_self _ _ _, fun _ _ _ _ _ h => h⟩
    · refine Step.mk (oi := _) rfl [(30, 1)] (fun cs b h => by cases h) (by kernel_rfl) (fun vs W hI hA => ?_)
      simp only [List.map]
      have h1 : vs 1 = .int .i64 z.id := hA 1 (by decide)
      rw [h1]
      simp only [putR, Act.put, List.setIfInBounds_toArray, List.set_cons_zero, List.set_cons_succ]
      refine SOp.enter (f := 41) (args := #[.int .u8 119, .int .i64 z.id]) (by kernel_rfl) (by go_simp) ((id_any 119 z.id W).mono ?_)
      rintro e w1 ⟨rfl, hb⟩
      exact ⟨strL' (idB 119 z.id), rfl, ⟨hI.1.trans (But.of_below hb), hI.2.keptB hb⟩, upd_self _ _ _, fun _ _ _ _ _ h => twat2F_mono hb h⟩
    · refine Step.mk (oi := _) rfl [] (fun cs b h => by cases h) (by kernel_rfl) (fun vs W hI hA => ?_)
      simp only [List.map]
      simp only [putR]
      refine SOp.val (v := .pointer (some ⟨w.heap.size, 0, none⟩)) (w' := W) (by kernel_rfl) (by go_simp) ⟨hI, upd_self _ _ _, fun _ _ _ _ _ h => h⟩
    · refine Step.mk (oi := _) rfl [(32, 3)] (fun cs b h => by cases h) (by kernel_rfl) (fun vs W hI hA => ?_)
      simp only [List.map]
      have h3 : vs 3 = .pointer (some ⟨w.heap.size, 0, none⟩) := hA 3 (by decide)
      rw [h3]
      have c0 := HC.out W hI.1 0 _ rfl
      simp only [putR, Act.put, List.setIfInBounds_toArray, List.set_cons_zero, List.set_cons_succ]
      refine SOp.val (v := .int .i64 z.id) (w' := W) (by kernel_rfl) (by go_simp) ⟨hI, upd_self _ _ _, fun _ _ _ _ _ h => h⟩
    · refine Step.mk (oi := _) rfl [(33, 4)] (fun cs b h => by cases h) (by kernel_rfl) (fun vs W hI hA => ?_)
      simp only [List.map]
      have h4 : vs 4 = .int .i64 z.id := hA 4 (by decide)
      rw [h4]
      simp only [putR, Act.put, List.setIfInBounds_toArray, List.set_cons_zero, List.set_cons_succ]
      refine SOp.enter (f := 42) (args := #[.int .i64 z.id]) (by kernel_rfl) (by go_simp) ((known_k W HK.out).mono ?_)
      rintro e w1 ⟨rfl, hb⟩
      exact ⟨.bool k, rfl, ⟨hI.1.trans (But.of_below hb), hI.2.keptB hb⟩, upd_self _ _ _, fun _ _ _ _ _ h => twat2F_mono hb h⟩
    · refine Step.mk (oi := _) rfl [(34, 5)] (fun cs b h => by cases h) (by kernel_rfl) (fun vs W hI hA => ?_)
      simp only [List.map]
      have h5 : vs 5 = .bool k := hA 5 (by decide)
      rw [h5]
      simp only [putR, Act.put, List.setIfInBounds_toArray, List.set_cons_zero, List.set_cons_succ]
      refine SOp.val (v := .bool k) (w' := W) (by kernel_rfl) (by go_simp) ⟨hI, upd_self _ _ _, fun _ _ _ _ _ h => h⟩
    · refine Step.mk (oi := _) rfl [(35, 6)] (fun cs b h => by cases h) (by kernel_rfl) (fun vs W hI hA => ?_)
      simp only [List.map]
      have h6 : vs 6 = .bool k := hA 6 (by decide)
      rw [h6]
      cases k
      · simp only [putR, Act.put, List.setIfInBounds_toArray, List.set_cons_zero, List.set_cons_succ]
        exact SOp.skipped (by kernel_rfl) ⟨hI, upd_self _ _ _, fun _ _ _ _ _ h => h⟩
      · skip
        try simp only [cond]
        simp only [putR, Act.put, List.setIfInBounds_toArray, List.set_cons_zero, List.set_cons_succ]
        refine SOp.val (v := .pointer (some ⟨w.heap.size, 2, none⟩)) (w' := W) (by kernel_rfl) (by go_simp) ⟨hI, upd_self _ _ _, fun _ _ _ _ _ h => h⟩
    · refine Step.mk (oi := _) rfl [(36, 7), (35, 6)] (fun cs b h => by cases h) (by kernel_rfl) (fun vs W hI hA => ?_)
      simp only [List.map]
      have h7 : vs 7 = cond k (.pointer (some ⟨w.heap.size, 2, none⟩)) undef := hA 7 (by decide)
      have h6 : vs 6 = .bool k := hA 6 (by decide)
      rw [h7, h6]
      have c2 := HC.out W hI.1 2 _ rfl
      cases k
      · simp only [putR, Act.put, List.setIfInBounds_toArray, List.set_cons_zero, List.set_cons_succ]
        exact SOp.skipped (by kernel_rfl) ⟨hI, upd_self _ _ _, fun _ _ _ _ _ h => h⟩
      · skip
        try simp only [cond]
        simp only [putR, Act.put, List.setIfInBounds_toArray, List.set_cons_zero, List.set_cons_succ]
        refine SOp.val (v := .int .i64 z.node) (w' := W) (by kernel_rfl) (by go_simp) ⟨hI, upd_self _ _ _, fun _ _ _ _ _ h => h⟩
    · refine Step.mk (oi := _) rfl [(37, 8), (35, 6)] (fun cs b h => by cases h) (by kernel_rfl) (fun vs W hI hA => ?_)
      simp only [List.map]
      have h8 : vs 8 = cond k (.int .i64 z.node) undef := hA 8 (by decide)
      have h6 : vs 6 = .bool k := hA 6 (by decide)
      rw [h8, h6]
      cases k
      · simp only [putR, Act.put, List.setIfInBounds_toArray, List.set_cons_zero, List.set_cons_succ]
        exact SOp.skipped (by kernel_rfl) ⟨hI, upd_self _ _ _, fun _ _ _ _ _ h => h⟩
      · skip
        try simp only [cond]
        simp only [putR, Act.put, List.setIfInBounds_toArray, List.set_cons_zero, List.set_cons_succ]
        refine SOp.val (v := .bool ln) (w' := W) (by kernel_rfl) (by go_simp <;> first | rw [HLN.out] | exact congrArg _ HLN.out) ⟨hI, upd_self _ _ _, fun _ _ _ _ _ h => h⟩
    · refine Step.mk (oi := _) rfl [(35, 6), (38, 9)] (fun cs b h => by cases h) (by kernel_rfl) (fun vs W hI hA => ?_)
      simp only [List.map]
      have h6 : vs 6 = .bool k := hA 6 (by decide)
      have h9 : vs 9 = cond k (.bool ln) undef := hA 9 (by decide)
      rw [h6, h9]
      cases k
      · try simp only [cond]
        simp only [putR, Act.put, List.setIfInBounds_toArray, List.set_cons_zero, List.set_cons_succ]
        refine SOp.val (v := .bool false) (w' := W) (by kernel_rfl) (by go_simp) ⟨hI, upd_self _ _ _, fun _ _ _ _ _ h => h⟩
      · skip
        try simp only [cond]
        simp only [putR, Act.put, List.setIfInBounds_toArray, List.set_cons_zero, List.set_cons_succ]
        refine SOp.val (v := .bool ln) (w' := W) (by kernel_rfl) (by go_simp) ⟨hI, upd_self _ _ _, fun _ _ _ _ _ h => h⟩
    · refine Step.mk (oi := _) rfl [(31, 2)] (fun cs b h => by cases h) (by kernel_rfl) (fun vs W hI hA => ?_)
      simp only [List.map]
      have h2 : vs 2 = strL' (idB 119 z.id) := hA 2 (by decide)
      rw [h2]
      simp only [putR, Act.put, List.setIfInBounds_toArray, List.set_cons_zero, List.set_cons_succ]
      refine SOp.val (v := strL' (idB 119 z.id)) (w' := W) (by kernel_rfl) (by go_simp) ⟨hI, upd_self _ _ _, fun _ _ _ _ _ h => h⟩
    · refine Step.mk (oi := _) rfl [(39, 10)] (fun cs b h => by cases h) (by kernel_rfl) (fun vs W hI hA => ?_)
      simp only [List.map]
      have h10 : vs 10 = .bool (k && ln) := hA 10 (by decide)
      rw [h10]
      simp only [putR, Act.put, List.setIfInBounds_toArray, List.set_cons_zero, List.set_cons_succ]
      refine SOp.val (v := .bool (k && ln)) (w' := W) (by kernel_rfl) (by go_simp) ⟨hI, upd_self _ _ _, fun _ _ _ _ _ h => h⟩
    · intro vs2 V2 hI2 hφ2
      have q4 : vs2 11 = strL' (idB 119 z.id) := hφ2 11 (fun k _ => by rfl)
      have q5 : vs2 12 = .bool (k && ln) := hφ2 12 (fun k _ => by rfl)
      clear hφ2
      simp only [putAll, Act.put, List.setIfInBounds_toArray, List.set_cons_zero, List.set_cons_succ]
      rw [q4, q5]
      have HI2 := Lib.hid hI2
      clear hI2 q4 q5
      go_wp2
      go_ret2
      refine ⟨by show Ending.returned (.tuple #[strL' (idB 119 z.id), .bool (k && ln)]) = _; rfl, HW.out.trans HI2.out.1, ?_⟩
      have := HI2.out.2
      simpa only [List.nil_append, List.append_assoc, Bool.true_and, Bool.and_assoc, shortB] using this
theorem tellWatch_any (z : Wa) (p : Nat) (w : World) (h : Pn w p [] true) (h1 : z.key.size ≤ 140737488351232) (h3 : z.ev < 256) :
    Calls Tryz.prog 25 #[.agg #[.int .i64 z.id, .int .i64 z.item, .int .i64 z.node, .int .u8 z.ev, .string z.key, .int .i64 z.due, .bool z.armed], pt p] w fun e w' => e = .returned (.tuple #[strL' (waE z).k, .bool (knownB z.id && lessB z.node)]) ∧ But p w w' ∧ Pn w' p (waE z).v (numB z.item && (numB (incS z.node) && (numB z.ev && (shortB z.key && (numB z.due && numB (b2n z.armed)))))) := by
  cases ha : z.armed
  · have := tellWatch_f z p w h h1 h3
    unfold waE
    rw [ha]
    exact this
  · have := tellWatch_t z p w h h1 h3
    unfold waE
    rw [ha]
    exact this
/-- what each operation of the region leaves -/
def tkeF (p b : Nat) (c nx : Int) : Nat → Value → List Value → World → Prop
  | 0, u, _, _ => u = pt p
  | 1, u, _, _ => u = .pointer (some ⟨b, 0, none⟩)
  | 2, u, _, _ => u = .int .i64 c
  | 3, u, _, w => u = pt p ∧ Pn w p ([] ++ numL (c)) (true && numB (c))
  | 4, u, _, _ => u = .pointer (some ⟨b, 1, none⟩)
  | 5, u, _, _ => u = .int .i64 nx
  | 6, u, _, w => u = pt p ∧ Pn w p (([] ++ numL (c)) ++ numL (nx)) ((true && numB (c)) && numB (nx))
  | 7, _, _, w => Pn w p [] true
  | _, _, _, _ => True
def tkeAnc (i : Nat) : List Nat := ([[], [], [1], [0, 1, 2], [], [4], [0, 1, 2, 3, 4, 5]] : List (List Nat)).getD i []
def tkeNeed (i : Nat) : List Nat := ([[], [], [1], [0, 2, 7], [], [4], [3, 5]] : List (List Nat)).getD i []
def tkeDep (i : Nat) : List Nat := ([[], [], [], [], [], [], []] : List (List Nat)).getD i []
def tkeKill (i j : Nat) : Bool := (i == 6 && j == 3) || (i == 3 && j == 7) || (i == 6 && j == 7)
def tkePure (j : Nat) : Bool := !([3, 6, 7].contains j)
theorem tkeF_pure {j : Nat} {u : Value} {ds : List Value} {w w' : World} {p b : Nat} {c nx : Int} (hp : tkePure j = true) (h : tkeF p b c nx j u ds w) : tkeF p b c nx j u ds w' := by
  match j with
  | 0 => exact h
  | 1 => exact h
  | 2 => exact h
  | 3 => exact absurd hp (by decide)
  | 4 => exact h
  | 5 => exact h
  | 6 => exact absurd hp (by decide)
  | 7 => exact absurd hp (by decide)
  | _ + 8 => trivial
theorem tkeF_mono {j : Nat} {u : Value} {ds : List Value} {w w' : World} {p b : Nat} {c nx : Int} (hb : Below w.heap.size w w') (h : tkeF p b c nx j u ds w) : tkeF p b c nx j u ds w' := by
  match j with
  | 0 => exact h
  | 1 => exact h
  | 2 => exact h
  | 3 => exact ⟨h.1, h.2.keptB hb⟩
  | 4 => exact h
  | 5 => exact h
  | 6 => exact ⟨h.1, h.2.keptB hb⟩
  | 7 => exact h.keptB hb
  | _ + 8 => trivial
theorem tkeKeep (x : List Nat) {i : Nat} (h : ((List.range 8).all fun j => tkePure j || j == i || tkeKill i j || (tkeAnc j).contains i || x.contains j) = true) {w w' : World} {p b : Nat} {c nx : Int} : ∀ j (vs' : Nat → Value), j ≠ i → tkeKill i j = false → (tkeAnc j).contains i = false → (x.contains j = false) →
    asrt (tkeF p b c nx) tkeDep j vs' w → asrt (tkeF p b c nx) tkeDep j vs' w' := by
  intro j vs' h1 h2 h3 h0 h4
  by_cases hj : j < 8
  · have := List.all_eq_true.1 h j (List.mem_range.2 hj)
    rw [h2, h3, h0] at this
    simp only [Bool.or_false, Bool.or_eq_true, beq_iff_eq] at this
    rcases this with h5 | h5
    · exact tkeF_pure h5 h4
    · exact absurd h5 h1
  · exact tkeF_pure (by unfold tkePure; simp; omega) h4
theorem tkeAnc_out {j : Nat} (h : 7 ≤ j) : tkeAnc j = [] := by
  unfold tkeAnc
  rw [List.getD_eq_getElem?_getD, List.getElem?_eq_none (by simpa using h)]
  rfl
theorem tkeDep_out {j : Nat} (h : 7 ≤ j) : tkeDep j = [] := by
  unfold tkeDep
  rw [List.getD_eq_getElem?_getD, List.getElem?_eq_none (by simpa using h)]
  rfl
theorem tkeDep_anc : ∀ j, ∀ d ∈ tkeDep j, d ∈ tkeAnc j := by
  intro j d hd
  by_cases h : j < 7
  · exact (by decide : ∀ j, j < 7 → ∀ d ∈ tkeDep j, d ∈ tkeAnc j) j h d hd
  · rw [tkeDep_out (by omega)] at hd
    cases hd
/-- what each operation of the region leaves -/
def tke2F (b : Nat) (o1 : Option Addr) (n1 c1 : Nat) (dl : Bool) : Nat → Value → List Value → World → Prop
  | 0, u, _, _ => u = .pointer (some ⟨b, 2, none⟩)
  | 1, u, _, _ => u = .slice o1 n1 c1
  | 2, u, _, _ => u = .int .i64 n1
  | 3, u, _, _ => u = .bool dl
  | 4, u, _, _ => u = strL' [99]
  | 5, u, _, _ => u = .bool dl
  | _, _, _, _ => True
def tke2Anc (i : Nat) : List Nat := ([[], [0], [0, 1], [0, 1, 2], [], [0, 1, 2, 3, 4]] : List (List Nat)).getD i []
def tke2Need (i : Nat) : List Nat := ([[], [0], [1], [2], [], [3]] : List (List Nat)).getD i []
def tke2Dep (i : Nat) : List Nat := ([[], [], [], [], [], []] : List (List Nat)).getD i []
def tke2Kill (_ _ : Nat) : Bool := false
def tke2Pure (j : Nat) : Bool := !([].contains j)
theorem tke2F_pure {j : Nat} {u : Value} {ds : List Value} {w w' : World} {b : Nat} {o1 : Option Addr} {n1 c1 : Nat} {dl : Bool} (hp : tke2Pure j = true) (h : tke2F b o1 n1 c1 dl j u ds w) : tke2F b o1 n1 c1 dl j u ds w' := by
  match j with
  | 0 => exact h
  | 1 => exact h
  | 2 => exact h
  | 3 => exact h
  | 4 => exact h
  | 5 => exact h
  | _ + 6 => trivial
theorem tke2F_mono {j : Nat} {u : Value} {ds : List Value} {w w' : World} {b : Nat} {o1 : Option Addr} {n1 c1 : Nat} {dl : Bool} (_hb : Below w.heap.size w w') (h : tke2F b o1 n1 c1 dl j u ds w) : tke2F b o1 n1 c1 dl j u ds w' := by
  match j with
  | 0 => exact h
  | 1 => exact h
  | 2 => exact h
  | 3 => exact h
  | 4 => exact h
  | 5 => exact h
  | _ + 6 => trivial
theorem tke2Keep (x : List Nat) {i : Nat} (h : ((List.range 6).all fun j => tke2Pure j || j == i || tke2Kill i j || (tke2Anc j).contains i || x.contains j) = true) {w w' : World} {b : Nat} {o1 : Option Addr} {n1 c1 : Nat} {dl : Bool} : ∀ j (vs' : Nat → Value), j ≠ i → tke2Kill i j = false → (tke2Anc j).contains i = false → (x.contains j = false) →
    asrt (tke2F b o1 n1 c1 dl) tke2Dep j vs' w → asrt (tke2F b o1 n1 c1 dl) tke2Dep j vs' w' := by
  intro j vs' h1 h2 h3 h0 h4
  by_cases hj : j < 6
  · have := List.all_eq_true.1 h j (List.mem_range.2 hj)
    rw [h2, h3, h0] at this
    simp only [Bool.or_false, Bool.or_eq_true, beq_iff_eq] at this
    rcases this with h5 | h5
    · exact tke2F_pure h5 h4
    · exact absurd h5 h1
  · exact tke2F_pure (by unfold tke2Pure; simp) h4
theorem tke2Anc_out {j : Nat} (h : 6 ≤ j) : tke2Anc j = [] := by
  unfold tke2Anc
  rw [List.getD_eq_getElem?_getD, List.getElem?_eq_none (by simpa using h)]
  rfl
theorem tke2Dep_out {j : Nat} (h : 6 ≤ j) : tke2Dep j = [] := by
  unfold tke2Dep
  rw [List.getD_eq_getElem?_getD, List.getElem?_eq_none (by simpa using h)]
  rfl
theorem tke2Dep_anc : ∀ j, ∀ d ∈ tke2Dep j, d ∈ tke2Anc j := by
  intro j d hd
  by_cases h : j < 6
  · exact (by decide : ∀ j, j < 6 → ∀ d ∈ tke2Dep j, d ∈ tke2Anc j) j h d hd
  · rw [tke2Dep_out (by omega)] at hd
    cases hd
set_option maxRecDepth 100000 in
set_option maxHeartbeats 4000000 in
theorem Keys_1_any (c nx : Int) (o1 o2 o3 o4 : Option Addr) (n1 n2 n3 n4 c1 c2 c3 c4 : Nat) (p : Nat) (w : World) (h : Pn w p [] true)  :
    Calls Tryz.prog 17 #[.agg #[.int .i64 c, .int .i64 nx, .slice o1 n1 c1, .slice o2 n2 c2, .slice o3 n3 c3, .slice o4 n4 c4], pt p] w fun e w' => e = .returned (.tuple #[strL' [99], .bool (decide (n1 ≤ 12))]) ∧ But p w w' ∧ Pn w' p (numL c ++ numL nx) ((numB c && numB nx)) := by
  have hL : (numL c).length ≤ 10 := numL_len _
  have HL := Lib.hid hL
  have HP0 : Hid (Pn (w.alloc (.cells #[.int .i64 c, .int .i64 nx, .slice o1 n1 c1, .slice o2 n2 c2, .slice o3 n3 c3, .slice o4 n4 c4] 27)).drew p [] true) := Lib.hid (h.keptB (((Below.refl _ _).alloc (Nat.le_refl _) _).drew))
  have HC := Lib.hid (box_cells (w := w) (p := p) (cs := #[.int .i64 c, .int .i64 nx, .slice o1 n1 c1, .slice o2 n2 c2, .slice o3 n3 c3, .slice o4 n4 c4]) (t := 27) h.lt)
  have HW : Hid (But p w (w.alloc (.cells #[.int .i64 c, .int .i64 nx, .slice o1 n1 c1, .slice o2 n2 c2, .slice o3 n3 c3, .slice o4 n4 c4] 27)).drew) := (But.alloc p w _).trans (But.drewN p _ 1)
  clear h hL
  obtain ⟨dl, hdl⟩ : ∃ d, decide ((n1 : Int) ≤ 12) = d := ⟨_, rfl⟩
  rw [show decide (n1 ≤ 12) = dl by rw [← hdl]; exact decide_eq_decide.2 (by omega)]
  have HD := Lib.hid hdl
  clear hdl
  go_enter Tryz.func17, Tryz.ntmps17
  go_upto_region 1 with fail
  refine wp_region_asrt (by kernel_rfl) (But p (w.alloc (.cells #[.int .i64 c, .int .i64 nx, .slice o1 n1 c1, .slice o2 n2 c2, .slice o3 n3 c3, .slice o4 n4 c4] 27)).drew) (tkeF p w.heap.size c nx) tkeDep tkeNeed tkeAnc tkeKill 7 [some 6, some 7, some 8, some 9, some 10, some 11, some 12] rfl rfl (by kernel_rfl) tkeDep_anc (But.refl _ _) (fun j h => tkeAnc_out h) (fun j h => by
      by_cases e1 : j = 7
      · subst e1; exact HP0.out
      have e3 : 8 ≤ j := by omega
      match j, e3 with
      | _ + 8, _ => trivial) (fun j h => tkeDep_out h) ⟨?_, ?_, ?_, ?_, ?_, ?_, ?_, trivial⟩ ?_
  · refine Step.mk (oi := _) rfl [] (fun cs b h => by cases h) (by kernel_rfl) (fun vs W hI hA => ?_)
    simp only [List.map]
    simp only [putR]
    refine SOp.val (v := pt p) (w' := W) (by kernel_rfl) (by go_simp) ⟨hI, upd_self _ _ _, fun _ _ _ _ _ h => h⟩
  · refine Step.mk (oi := _) rfl [] (fun cs b h => by cases h) (by kernel_rfl) (fun vs W hI hA => ?_)
    simp only [List.map]
    simp only [putR]
    refine SOp.val (v := .pointer (some ⟨w.heap.size, 0, none⟩)) (w' := W) (by kernel_rfl) (by go_simp) ⟨hI, upd_self _ _ _, fun _ _ _ _ _ h => h⟩
  · refine Step.mk (oi := _) rfl [(7, 1)] (fun cs b h => by cases h) (by kernel_rfl) (fun vs W hI hA => ?_)
    simp only [List.map]
    have h1 : vs 1 = .pointer (some ⟨w.heap.size, 0, none⟩) := hA 1 (by decide)
    rw [h1]
    have c0 := HC.out W hI 0 _ rfl
    simp only [putR, Act.put, List.setIfInBounds_toArray, List.set_cons_zero, List.set_cons_succ]
    refine SOp.val (v := .int .i64 c) (w' := W) (by kernel_rfl) (by go_simp) ⟨hI, upd_self _ _ _, fun _ _ _ _ _ h => h⟩
  · refine Step.mk (oi := _) rfl [(6, 0), (8, 2)] (fun cs b h => by cases h) (by kernel_rfl) (fun vs W hI hA => ?_)
    simp only [List.map]
    have h0 : vs 0 = pt p := hA 0 (by decide)
    have h2 : vs 2 = .int .i64 c := hA 2 (by decide)
    rw [h0, h2]
    have hP := hA 7 (by decide)
    simp only [putR, Act.put, List.setIfInBounds_toArray, List.set_cons_zero, List.set_cons_succ]
    refine SOp.enter (f := 18) (args := #[pt p, .int .i64 (c)]) (by kernel_rfl) (by go_simp) ((pen_num p [] true (c) W hP (by simp)).mono ?_)
    rintro e w1 ⟨rfl, hb, hP1⟩
    refine ⟨pt p, rfl, hI.trans hb, ⟨upd_self _ _ _, hP1⟩, ?_⟩
    intro j vs' a1 a2 a3 a4
    exact tkeKeep [] (i := 3) (by decide) j vs' a1 a2 a3 (by rfl) a4
  · refine Step.mk (oi := _) rfl [] (fun cs b h => by cases h) (by kernel_rfl) (fun vs W hI hA => ?_)
    simp only [List.map]
    simp only [putR]
    refine SOp.val (v := .pointer (some ⟨w.heap.size, 1, none⟩)) (w' := W) (by kernel_rfl) (by go_simp) ⟨hI, upd_self _ _ _, fun _ _ _ _ _ h => h⟩
  · refine Step.mk (oi := _) rfl [(10, 4)] (fun cs b h => by cases h) (by kernel_rfl) (fun vs W hI hA => ?_)
    simp only [List.map]
    have h4 : vs 4 = .pointer (some ⟨w.heap.size, 1, none⟩) := hA 4 (by decide)
    rw [h4]
    have c1 := HC.out W hI 1 _ rfl
    simp only [putR, Act.put, List.setIfInBounds_toArray, List.set_cons_zero, List.set_cons_succ]
    refine SOp.val (v := .int .i64 nx) (w' := W) (by kernel_rfl) (by go_simp) ⟨hI, upd_self _ _ _, fun _ _ _ _ _ h => h⟩
  · refine Step.mk (oi := _) rfl [(9, 3), (11, 5)] (fun cs b h => by cases h) (by kernel_rfl) (fun vs W hI hA => ?_)
    simp only [List.map]
    have h5 : vs 5 = .int .i64 nx := hA 5 (by decide)
    rw [h5]
    obtain ⟨e0, hP⟩ := hA 3 (by decide)
    rw [e0]
    simp only [putR, Act.put, List.setIfInBounds_toArray, List.set_cons_zero, List.set_cons_succ]
    refine SOp.enter (f := 18) (args := #[pt p, .int .i64 (nx)]) (by kernel_rfl) (by go_simp) ((pen_num p ([] ++ numL (c)) (true && numB (c)) (nx) W hP (by simp only [List.length_append, List.length_nil]; have := HL.out; omega)).mono ?_)
    rintro e w1 ⟨rfl, hb, hP1⟩
    refine ⟨pt p, rfl, hI.trans hb, ⟨upd_self _ _ _, hP1⟩, ?_⟩
    intro j vs' a1 a2 a3 a4
    exact tkeKeep [] (i := 6) (by decide) j vs' a1 a2 a3 (by rfl) a4
  · intro vs V hI hφ
    obtain ⟨e0, hP⟩ := hφ 6 (fun k _ => by simp [tkeKill])
    clear hφ e0
    simp only [putAll, Act.put, List.setIfInBounds_toArray, List.set_cons_zero, List.set_cons_succ]
    have HB2 := Lib.hid hI
    have HP2 := Lib.hid hP
    clear hI hP
    go_upto_region 2 with fail
    refine wp_region_asrt (by kernel_rfl) (PtJ p (w.alloc (.cells #[.int .i64 c, .int .i64 nx, .slice o1 n1 c1, .slice o2 n2 c2, .slice o3 n3 c3, .slice o4 n4 c4] 27)).drew (([] ++ numL (c)) ++ numL (nx)) ((true && numB (c)) && numB (nx))) (tke2F w.heap.size o1 n1 c1 dl) tke2Dep tke2Need tke2Anc tke2Kill 6 [some 13, some 14, some 15, some 16, some 4, some 5] rfl rfl (by kernel_rfl) tke2Dep_anc ⟨HB2.out.trans (But.drewN p V 1), HP2.out⟩ (fun j h => tke2Anc_out h) (fun j h => by
        match j, h with
        | _ + 6, _ => trivial) (fun j h => tke2Dep_out h) ⟨?_, ?_, ?_, ?_, ?_, ?_, trivial⟩ ?_
    · refine Step.mk (oi := _) rfl [] (fun cs b h => by cases h) (by kernel_rfl) (fun vs W hI hA => ?_)
      simp only [List.map]
      simp only [putR]
      refine SOp.val (v := .pointer (some ⟨w.heap.size, 2, none⟩)) (w' := W) (by kernel_rfl) (by go_simp) ⟨hI, upd_self _ _ _, fun _ _ _ _ _ h => h⟩
    · refine Step.mk (oi := _) rfl [(13, 0)] (fun cs b h => by cases h) (by kernel_rfl) (fun vs W hI hA => ?_)
      simp only [List.map]
      have h0 : vs 0 = .pointer (some ⟨w.heap.size, 2, none⟩) := hA 0 (by decide)
      rw [h0]
      have c2 := HC.out W hI.1 2 _ rfl
      simp only [putR, Act.put, List.setIfInBounds_toArray, List.set_cons_zero, List.set_cons_succ]
      refine SOp.val (v := .slice o1 n1 c1) (w' := W) (by kernel_rfl) (by go_simp) ⟨hI, upd_self _ _ _, fun _ _ _ _ _ h => h⟩
    · refine Step.mk (oi := _) rfl [(14, 1)] (fun cs b h => by cases h) (by kernel_rfl) (fun vs W hI hA => ?_)
      simp only [List.map]
      have h1 : vs 1 = .slice o1 n1 c1 := hA 1 (by decide)
      rw [h1]
      simp only [putR, Act.put, List.setIfInBounds_toArray, List.set_cons_zero, List.set_cons_succ]
      refine SOp.val (v := .int .i64 n1) (w' := W) (by kernel_rfl) (by go_simp) ⟨hI, upd_self _ _ _, fun _ _ _ _ _ h => h⟩
    · refine Step.mk (oi := _) rfl [(15, 2)] (fun cs b h => by cases h) (by kernel_rfl) (fun vs W hI hA => ?_)
      simp only [List.map]
      have h2 : vs 2 = .int .i64 n1 := hA 2 (by decide)
      rw [h2]
      simp only [putR, Act.put, List.setIfInBounds_toArray, List.set_cons_zero, List.set_cons_succ]
      refine SOp.val (v := .bool dl) (w' := W) (by kernel_rfl) (by go_simp <;> first | rw [HD.out] | exact congrArg _ HD.out) ⟨hI, upd_self _ _ _, fun _ _ _ _ _ h => h⟩
    · refine Step.mk (oi := _) rfl [] (fun cs b h => by cases h) (by kernel_rfl) (fun vs W hI hA => ?_)
      simp only [List.map]
      simp only [putR]
      refine SOp.val (v := strL' [99]) (w' := W) (by kernel_rfl) (by first | (go_simp; done) | (go_simp; rfl)) ⟨hI, upd_self _ _ _, fun _ _ _ _ _ h => h⟩
    · refine Step.mk (oi := _) rfl [(16, 3)] (fun cs b h => by cases h) (by kernel_rfl) (fun vs W hI hA => ?_)
      simp only [List.map]
      have h3 : vs 3 = .bool dl := hA 3 (by decide)
      rw [h3]
      simp only [putR, Act.put, List.setIfInBounds_toArray, List.set_cons_zero, List.set_cons_succ]
      refine SOp.val (v := .bool dl) (w' := W) (by kernel_rfl) (by go_simp) ⟨hI, upd_self _ _ _, fun _ _ _ _ _ h => h⟩
    · intro vs2 V2 hI2 hφ2
      have q4 : vs2 4 = strL' [99] := hφ2 4 (fun k _ => by rfl)
      have q5 : vs2 5 = .bool dl := hφ2 5 (fun k _ => by rfl)
      clear hφ2
      simp only [putAll, Act.put, List.setIfInBounds_toArray, List.set_cons_zero, List.set_cons_succ]
      rw [q4, q5]
      have HI2 := Lib.hid hI2
      clear hI2 q4 q5
      go_wp2
      go_ret2
      refine ⟨by show Ending.returned (.tuple #[strL' [99], .bool dl]) = _; rfl, HW.out.trans HI2.out.1, ?_⟩
      have := HI2.out.2
      simpa only [List.nil_append, List.append_assoc, Bool.true_and, Bool.and_assoc] using this
end Go.Proofs.YtjakdbahopbggaaGreatDoor
