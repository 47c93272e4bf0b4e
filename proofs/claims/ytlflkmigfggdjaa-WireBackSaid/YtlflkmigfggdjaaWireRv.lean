/- What wire's read[Value] returns, by what its closure returns. Conditions: none. -/
import Derived.Test.YtlflkmigfggdjaaWireM3
namespace Go.Proofs.Ytlflkmigfggdjaa
open Go.RowKit Go.Ow Go.Wi

/-- a value, as data -/
abbrev vVal (k n : Int) (t : ByteArray) : Value := .agg #[.int .u8 k, .int .i64 n, .string t]
abbrev val0 : Value := .agg #[.int .u8 0, .int .i64 0, .string ⟨#[]⟩]
abbrev obj0 : Obj := .cells #[.int .u8 0, .int .i64 0, .string ⟨#[]⟩] 23

/-- a value's block: three cells -/
def Three (w : World) (b : Nat) (x y z : Value) : Prop := w.heap[b]? = some (.cells #[x, y, z] 23 (0, 0))
theorem Three.lt {w : World} {b : Nat} {x y z : Value} (h : Three w b x y z) : b < w.heap.size := (Array.getElem?_eq_some_iff.1 h).1
theorem Three.c0 {w : World} {b : Nat} {x y z : Value} (h : Three w b x y z) : w.cell? ⟨b, 0, none⟩ = some x := by rw [cell_of_row w b 0 _ 23 (0, 0) h]; rfl
theorem Three.c1 {w : World} {b : Nat} {x y z : Value} (h : Three w b x y z) : w.cell? ⟨b, 1, none⟩ = some y := by rw [cell_of_row w b 1 _ 23 (0, 0) h]; rfl
theorem Three.c2 {w : World} {b : Nat} {x y z : Value} (h : Three w b x y z) : w.cell? ⟨b, 2, none⟩ = some z := by rw [cell_of_row w b 2 _ 23 (0, 0) h]; rfl
theorem Three.fz {w : World} {b : Nat} {x y z : Value} (h : Three w b x y z) (o : Nat) : w.frozen? ⟨b, o, none⟩ = false := by
  have h' : w.heap[b]? = some (.cells #[x, y, z] 23 (0, 0)) := h
  unfold World.frozen?
  rw [h']
  simp
theorem Three.kept {w w' : World} {b c : Nat} {x y z : Value} (h : Three w b x y z) (k : But c w w') (hb : b ≠ c) : Three w' b x y z := by
  unfold Three
  rw [k.block b h.lt hb]
  exact h
theorem Three.set0 {w : World} {b : Nat} {x y z : Value} (h : Three w b x y z) (u : Value) : Three (w.setCell ⟨b, 0, none⟩ u) b u y z := by
  have h' : w.heap[b]? = some (.cells #[x, y, z] 23 (0, 0)) := h
  unfold Three
  simp [World.setCell, Array.getElem?_modify, h']
theorem Three.set1 {w : World} {b : Nat} {x y z : Value} (h : Three w b x y z) (u : Value) : Three (w.setCell ⟨b, 1, none⟩ u) b x u z := by
  have h' : w.heap[b]? = some (.cells #[x, y, z] 23 (0, 0)) := h
  unfold Three
  simp [World.setCell, Array.getElem?_modify, h']
theorem Three.set2 {w : World} {b : Nat} {x y z : Value} (h : Three w b x y z) (u : Value) : Three (w.setCell ⟨b, 2, none⟩ u) b x y u := by
  have h' : w.heap[b]? = some (.cells #[x, y, z] 23 (0, 0)) := h
  unfold Three
  simp [World.setCell, Array.getElem?_modify, h']
theorem three_new (w : World) (x y z : Value) : Three (w.alloc (.cells #[x, y, z] 23)) w.heap.size x y z := heap_alloc_new w _

theorem _root_.Go.Ow.But.al {b : Nat} {w w1 : World} (h : But b w w1) (o : Obj) : But b w (w1.alloc o) := h.trans (But.alloc b w1 o)
theorem _root_.Go.Ow.But.dr {b : Nat} {w w1 : World} (h : But b w w1) (n : Nat) : But b w (w1.drewN n) := h.trans (But.drewN b w1 n)
theorem _root_.Go.Ow.But.se {b : Nat} {w w1 : World} (h : But b w w1) (o : Nat) (u : Value) : But b w (w1.setCell ⟨b, o, none⟩ u) := h.trans (But.setCell b w1 o u)
theorem _root_.Go.Ow.But.sn {b k : Nat} {w w1 : World} (h : But b w w1) (o : Nat) (u : Value) (hk : w.heap.size ≤ k) : But b w (w1.setCell ⟨k, o, none⟩ u) :=
  ⟨h.os, h.tape, h.output, by have := h.size; simpa [World.setCell] using this, fun i hi hb => (Below.heap_setCell _ _ _ _ (by show i ≠ k; omega)).trans (h.block i hi hb)⟩
theorem _root_.Go.Ow.Two.al {w : World} {b : Nat} {t : TypeId} {x y : Value} (h : Two w b t x y) (o : Obj) : Two (w.alloc o) b t x y := h.kept (But.alloc (b + 1) w o) (by omega)
theorem _root_.Go.Ow.Two.sn {w : World} {b k : Nat} {t : TypeId} {x y : Value} (h : Two w b t x y) (o : Nat) (u : Value) (hk : b ≠ k) : Two (w.setCell ⟨k, o, none⟩ u) b t x y := h.kept (But.setCell k w o u) hk
theorem Three.al {w : World} {b : Nat} {x y z : Value} (h : Three w b x y z) (o : Obj) : Three (w.alloc o) b x y z := h.kept (But.alloc (b + 1) w o) (by omega)
theorem Three.sn {w : World} {b k : Nat} {x y z : Value} (h : Three w b x y z) (o : Nat) (u : Value) (hk : b ≠ k) : Three (w.setCell ⟨k, o, none⟩ u) b x y z := h.kept (But.setCell k w o u) hk
set_option maxHeartbeats 1000000 in
theorem readValue_bad (b c : Nat) (caps : Array Value) (x : Value) (w : World) (hc : c ≠ 0) (h : Two w b 67 x (.int .i64 c)) :
    Calls Try.prog 43 #[ptr b, .func (Fn.func 44) #[] caps] w fun e w' => e = .returned (.tuple #[val0, .int .i64 c]) ∧ But b w w' ∧ Two w' b 67 x (.int .i64 c) := by
  have h1 := h.c1
  have hlt := h.lt
  have hc' : ((c : Int) == 0) = false := by rw [beq_eq_false_iff_ne]; omega
  have hc'' : ((c : Int) != 0) = true := by rw [bne_iff_ne]; omega
  have HH := Lib.hid h
  clear h hc
  go_enter Try.func43, Try.ntmps43
  go_wp2
  go_region
  go_wp2
  refine bodyPost_ret (v := .tuple #[val0, .int .i64 c]) (by simp [results, Try.results43, go_sem]) rfl ⟨rfl, (But.alloc b w _).trans (But.drewN b _ 1), ?_⟩
  exact (HH.out.kept (But.alloc (w.heap.size + 1) w _) (by omega)).drewN 1
set_option maxHeartbeats 1000000 in
theorem readValue_err (b c : Nat) (caps : Array Value) (k n : Int) (t : ByteArray) (x : Value) (w : World) (hc : c ≠ 0) (h : Two w b 67 x (.int .i64 0))
    (hcl : Calls Try.prog 44 caps (w.alloc obj0) fun e w' => e = .returned (.tuple #[vVal k n t, .int .i64 c]) ∧ But b (w.alloc obj0) w' ∧ ∃ y z, Two w' b 67 y z) :
    Calls Try.prog 43 #[ptr b, .func (Fn.func 44) #[] caps] w fun e w' => e = .returned (.tuple #[val0, .int .i64 c]) ∧ But b w w' ∧ Two w' b 67 (str []) (.int .i64 c) := by
  have h1 := h.c1
  have hlt := h.lt
  clear h
  have HC := Lib.hid hc
  have hc' : ((c : Int) == 0) = false := by rw [beq_eq_false_iff_ne]; omega
  have hc'' : ((c : Int) != 0) = true := by rw [bne_iff_ne]; omega
  clear hc
  go_enter Try.func43, Try.ntmps43
  go_wp2_with (go_at_call 44; refine hcl.mono ?_; rintro e w1 ⟨rfl, hb, y, z, h2⟩; have k0 := h2.c0; have k1 := h2.c1; have f0 := h2.fz 0; have f1 := h2.fz 1; have hl1 := h2.lt; have hV := (three_new w (.int .u8 0) (.int .i64 0) (.string ⟨#[]⟩)).kept hb (by omega); have v0 := hV.c0; have v1 := hV.c1; have v2 := hV.c2; have g0 := hV.fz 0; have g1 := hV.fz 1; have g2 := hV.fz 2; have hV' := hV.lt; clear hV)
  have hW := (But.alloc b w obj0).trans hb
  clear hcl
  refine bodyPost_ret (v := .tuple #[val0, .int .i64 c]) (by simp [results, Try.results43, go_sem, *]) rfl ⟨rfl, ?_, ?_⟩
  · exact (((((hW.se _ _).se _ _).sn _ _ (Nat.le_refl _)).sn _ _ (Nat.le_refl _)).sn _ _ (Nat.le_refl _)).al _
  · exact (((((h2.set0 _).set1 _).sn _ _ (by omega)).sn _ _ (by omega)).sn _ _ (by omega)).al _
set_option maxHeartbeats 1000000 in
theorem readValue_ok (b : Nat) (caps : Array Value) (k n : Int) (t : ByteArray) (l : List UInt8) (x : Value) (w : World) (h : Two w b 67 x (.int .i64 0))
    (hcl : Calls Try.prog 44 caps (w.alloc obj0) fun e w' => e = .returned (.tuple #[vVal k n t, .int .i64 0]) ∧ But b (w.alloc obj0) w' ∧ Two w' b 67 (str l) (.int .i64 0)) :
    Calls Try.prog 43 #[ptr b, .func (Fn.func 44) #[] caps] w fun e w' => e = .returned (.tuple #[vVal k n t, .int .i64 0]) ∧ But b w w' ∧ Two w' b 67 (str l) (.int .i64 0) := by
  have h1 := h.c1
  have hlt := h.lt
  clear h
  go_enter Try.func43, Try.ntmps43
  go_wp2_with (go_at_call 44; refine hcl.mono ?_; rintro e w1 ⟨rfl, hb, h2⟩; have hl1 := h2.lt; have hV := (three_new w (.int .u8 0) (.int .i64 0) (.string ⟨#[]⟩)).kept hb (by omega); have v0 := hV.c0; have v1 := hV.c1; have v2 := hV.c2; have g0 := hV.fz 0; have g1 := hV.fz 1; have g2 := hV.fz 2; have hV' := hV.lt; clear hV)
  have hW := (But.alloc b w obj0).trans hb
  clear hcl
  refine bodyPost_ret (v := .tuple #[vVal k n t, .int .i64 0]) (by simp [results, Try.results43, go_sem, *]) rfl ⟨rfl, ?_, ?_⟩
  · exact (((hW.sn _ _ (Nat.le_refl _)).sn _ _ (Nat.le_refl _)).sn _ _ (Nat.le_refl _)).al _
  · exact (((h2.sn _ _ (by omega)).sn _ _ (by omega)).sn _ _ (by omega)).al _
end Go.Proofs.Ytlflkmigfggdjaa
