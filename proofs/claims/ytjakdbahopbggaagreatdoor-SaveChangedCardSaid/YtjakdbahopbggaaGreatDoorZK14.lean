/- Layer 2's bytes, in plain Lean: no number's bytes begin another one's; texts and values neither; how many bytes. Conditions: none. -/
import Derived.Test.YtjakdbahopbggaaGreatDoorZWr1
import Derived.Test.YtjakdbahopbggaaGreatDoorZK05
import Derived.Laws.DeepNot64
import Derived.RegionTactic
import Derived.ChangeAlike
import Derived.Outline
import Derived.Test.YtjakdbahopbggaaGreatDoorZMVars2
section
namespace Go.Wi

theorem ofNat_inj {a b : Nat} (ha : a < 256) (hb : b < 256) (h : UInt8.ofNat a = UInt8.ofNat b) : a = b := by
  have := congrArg UInt8.toNat h
  simp at this
  omega

/-- a number's bytes tell it, and where they end -/
theorem enc_parts : ∀ (m n : Nat) (a b : List UInt8), enc m ++ a = enc n ++ b → m = n ∧ a = b := by
  intro m
  induction m using Nat.strongRecOn with
  | ind m ih =>
    intro n a b h
    by_cases hm : m < 128
    · by_cases hn : n < 128
      · rw [enc_small hm, enc_small hn] at h
        simp only [List.cons_append, List.nil_append, List.cons.injEq] at h
        exact ⟨ofNat_inj (by omega) (by omega) h.1, h.2⟩
      · rw [enc_small hm, enc_more (n := n) (by omega)] at h
        simp only [List.cons_append, List.nil_append, List.cons.injEq] at h
        have := ofNat_inj (by omega) (by omega) h.1
        omega
    · by_cases hn : n < 128
      · rw [enc_more (n := m) (by omega), enc_small hn] at h
        simp only [List.cons_append, List.nil_append, List.cons.injEq] at h
        have := ofNat_inj (by omega) (by omega) h.1
        omega
      · rw [enc_more (n := m) (by omega), enc_more (n := n) (by omega)] at h
        simp only [List.cons_append, List.cons.injEq] at h
        have h1 := ofNat_inj (by omega) (by omega) h.1
        have h2 := ih (m / 128) (by omega) (n / 128) a b h.2
        exact ⟨by omega, h2.2⟩


/-- how far from 0 -/
def far (n : Int) : Nat := n.natAbs




theorem may_cases' {k : Nat} {n : Int} {t : ByteArray} (h : may k n t = true) : (k = 0 ∧ n = 0 ∧ t.size = 0) ∨ (k = 1 ∧ t.size = 0) ∨ (k = 2 ∧ (n = 0 ∨ n = 1) ∧ t.size = 0) ∨ (k = 3 ∧ n = 0 ∧ t.size ≤ 40) := of_decide_eq_true h
theorem eq_of_size0 {t u : ByteArray} (h : t.size = 0) (k : u.size = 0) : t = u := by
  apply ByteArray.ext
  rw [Array.eq_empty_of_size_eq_zero h, Array.eq_empty_of_size_eq_zero k]
theorem eq_of_list {t u : ByteArray} (h : t.data.toList = u.data.toList) : t = u := by
  apply ByteArray.ext
  exact Array.toList_inj.1 h

/-- a value's bytes tell it, and where they end -/
theorem encV_parts {k l : Nat} {n m : Int} {t u : ByteArray} (h1 : may k n t = true) (h2 : may l m u = true) (a b : List UInt8) (h : encV k n t ++ a = encV l m u ++ b) : k = l ∧ n = m ∧ t = u ∧ a = b := by
  unfold encV at h
  rw [List.append_assoc, List.append_assoc] at h
  obtain ⟨rfl, h⟩ := enc_parts _ _ _ _ h
  rcases may_cases' h1 with ⟨rfl, rfl, ht⟩ | ⟨rfl, ht⟩ | ⟨rfl, hn, ht⟩ | ⟨rfl, rfl, ht⟩ <;> rcases may_cases' h2 with ⟨hk, hm, hu⟩ | ⟨hk, hu⟩ | ⟨hk, hm, hu⟩ | ⟨hk, hm, hu⟩ <;> first | (exfalso; omega) | skip
  · simp at h
    exact ⟨rfl, hm.symm, eq_of_size0 ht hu, h⟩
  · simp at h
    have := enc_parts _ _ _ _ h
    exact ⟨rfl, zig_inj this.1, eq_of_size0 ht hu, this.2⟩
  · simp at h
    have := enc_parts _ _ _ _ h
    exact ⟨rfl, by omega, eq_of_size0 ht hu, this.2⟩
  · simp at h
    have h1 := enc_parts _ _ _ _ h
    have h2 := List.append_inj h1.2 (by simpa using h1.1)
    exact ⟨rfl, hm.symm, eq_of_list h2.1, h2.2⟩
end Go.Wi

/- Reading layer 2's bytes, in plain Lean: a number byte by byte; what a reader does. Conditions: none. -/
namespace Go.Wi

/-- a number, read byte by byte: at place i, with n so far; an error, or the number and what is left -/
def scan (most : Nat) : Nat → Nat → List UInt8 → Except Nat (Nat × List UInt8)
  | _, _, [] => .error 8
  | i, n, b :: l =>
    if 9 < i ∨ 18446744073709551616 ≤ b.toNat % 128 * 128 ^ i ∨ most < n + b.toNat % 128 * 128 ^ i then .error 4
    else if 128 ≤ b.toNat then scan most (i + 1) (n + b.toNat % 128 * 128 ^ i) l
    else if b.toNat = 0 ∧ 0 < i then .error 4
    else .ok (n + b.toNat % 128 * 128 ^ i, l)

/-- a reader: what is left, and what was wrong -/
structure Rs where
  l : List UInt8
  e : Nat

def Rs.num (most : Nat) (r : Rs) : (Nat × Nat) × Rs :=
  if r.e ≠ 0 then ((0, r.e), r) else match scan most 0 0 r.l with
    | .error c => ((0, c), ⟨[], c⟩)
    | .ok (n, l) => ((n, 0), ⟨l, 0⟩)

/-- the whole number of a number -/
def zag (n : Nat) : Int := if n % 2 = 0 then (n / 2 : Nat) else -((n / 2 : Nat) : Int) - 1

def Rs.int (r : Rs) : (Int × Nat) × Rs :=
  match r.num 18446744073709551615 with
  | ((n, e), r') => if e ≠ 0 then ((0, e), r') else ((zag n, 0), r')

def Rs.text (most : Int) (r : Rs) : (List UInt8 × Nat) × Rs :=
  match r.num 1099511627776 with
  | ((n, e), r') =>
    if e ≠ 0 then (([], e), r')
    else if most < (n : Int) then (([], 40), ⟨[], 40⟩)
    else if r'.l.length < n then (([], 8), ⟨[], 8⟩)
    else ((r'.l.take n, 0), ⟨r'.l.drop n, 0⟩)


end Go.Wi

/- What wire's take returns. Conditions: the bytes are not too many. -/

/- What wire's Reader.Num returns, and what it does to the reader. Conditions: the bytes are not too many. -/
namespace Go.Proofs.YtjakdbahopbggaaGreatDoor.Wr
open Go.RowKit Go.Ow Go.Wi

abbrev str (l : List UInt8) : Value := .string ⟨l.toArray⟩
abbrev ptr (b : Nat) : Value := .pointer (some ⟨b, 0, none⟩)
/-- the reader at block b -/
def RdW (w : World) (b : Nat) (r : Rs) : Prop := Two w b 150 (str r.l) (.int .i64 r.e)



end Go.Proofs.YtjakdbahopbggaaGreatDoor.Wr

/- What wire's read[..] returns, by what its closure returns. Conditions: none. -/

/- What wire's Reader.Num, Left, End and Int return, and what they do to the reader. Conditions: the bytes are not too many. -/
end
/- What wire's Reader.Left, End and Int return, and what they do to the reader. Conditions: the bytes are not too many. -/
section
namespace Go.Proofs.YtjakdbahopbggaaGreatDoor.Wr
open Go.RowKit Go.Ow Go.Wi

/-- what End answers -/
def Rs.fin (r : Rs) : Nat × Rs := if r.e ≠ 0 then (r.e, r) else if r.l = [] then (0, r) else (4, ⟨[], 4⟩)




end Go.Proofs.YtjakdbahopbggaaGreatDoor.Wr

/- What wire's Reader.Text returns, and what it does to the reader. Conditions: the bytes are not too many. -/
namespace Go.Proofs.YtjakdbahopbggaaGreatDoor.Wr
open Go.RowKit Go.Ow Go.Wi



/-- a captured variable: one cell, not the reader's -/
structure Cap (w : World) (B b : Nat) (u : Value) : Prop where
  cell : w.cell? ⟨B, 0, none⟩ = some u
  lt : B < w.heap.size
  ne : B ≠ b
theorem Cap.kept {w w' : World} {B b : Nat} {u : Value} (h : Cap w B b u) (k : But b w w') : Cap w' B b u := ⟨by rw [k.cell h.lt h.ne]; exact h.cell, Nat.lt_of_lt_of_le h.lt k.size, h.ne⟩



theorem ext_take (l : List UInt8) (n : Nat) : (⟨l.toArray⟩ : ByteArray).extract 0 n = ⟨(l.take n).toArray⟩ := by
  apply ByteArray.ext
  apply Array.toList_inj.1
  rw [ByteArray.data_extract, Array.toList_extract, List.extract_eq_take_drop]
  simp


end Go.Proofs.YtjakdbahopbggaaGreatDoor.Wr

/- What wire's read[Value] returns, by what its closure returns. Conditions: none. -/
namespace Go.Proofs.YtjakdbahopbggaaGreatDoor.Wr
open Go.RowKit Go.Ow Go.Wi


/-- a value's block: three cells -/
def Three (w : World) (b : Nat) (x y z : Value) : Prop := w.heap[b]? = some (.cells #[x, y, z] 51 (0, 0))
theorem Three.lt {w : World} {b : Nat} {x y z : Value} (h : Three w b x y z) : b < w.heap.size := (Array.getElem?_eq_some_iff.1 h).1
theorem Three.c0 {w : World} {b : Nat} {x y z : Value} (h : Three w b x y z) : w.cell? ⟨b, 0, none⟩ = some x := by rw [cell_of_row w b 0 _ 51 (0, 0) h]; rfl
theorem Three.c1 {w : World} {b : Nat} {x y z : Value} (h : Three w b x y z) : w.cell? ⟨b, 1, none⟩ = some y := by rw [cell_of_row w b 1 _ 51 (0, 0) h]; rfl
theorem Three.c2 {w : World} {b : Nat} {x y z : Value} (h : Three w b x y z) : w.cell? ⟨b, 2, none⟩ = some z := by rw [cell_of_row w b 2 _ 51 (0, 0) h]; rfl
theorem Three.fz {w : World} {b : Nat} {x y z : Value} (h : Three w b x y z) (o : Nat) : w.frozen? ⟨b, o, none⟩ = false := by
  have h' : w.heap[b]? = some (.cells #[x, y, z] 51 (0, 0)) := h
  unfold World.frozen?
  rw [h']
  simp
theorem Three.kept {w w' : World} {b c : Nat} {x y z : Value} (h : Three w b x y z) (k : But c w w') (hb : b ≠ c) : Three w' b x y z := by
  unfold Three
  rw [k.block b h.lt hb]
  exact h
theorem Three.set0 {w : World} {b : Nat} {x y z : Value} (h : Three w b x y z) (u : Value) : Three (w.setCell ⟨b, 0, none⟩ u) b u y z := by
  have h' : w.heap[b]? = some (.cells #[x, y, z] 51 (0, 0)) := h
  unfold Three
  simp [World.setCell, Array.getElem?_modify, h']
theorem Three.set1 {w : World} {b : Nat} {x y z : Value} (h : Three w b x y z) (u : Value) : Three (w.setCell ⟨b, 1, none⟩ u) b x u z := by
  have h' : w.heap[b]? = some (.cells #[x, y, z] 51 (0, 0)) := h
  unfold Three
  simp [World.setCell, Array.getElem?_modify, h']

theorem _root_.Go.Ow.But.al {b : Nat} {w w1 : World} (h : But b w w1) (o : Obj) : But b w (w1.alloc o) := h.trans (But.alloc b w1 o)
theorem _root_.Go.Ow.But.dr {b : Nat} {w w1 : World} (h : But b w w1) (n : Nat) : But b w (w1.drewN n) := h.trans (But.drewN b w1 n)
theorem _root_.Go.Ow.But.se {b : Nat} {w w1 : World} (h : But b w w1) (o : Nat) (u : Value) : But b w (w1.setCell ⟨b, o, none⟩ u) := h.trans (But.setCell b w1 o u)
theorem _root_.Go.Ow.But.sn {b k : Nat} {w w1 : World} (h : But b w w1) (o : Nat) (u : Value) (hk : w.heap.size ≤ k) : But b w (w1.setCell ⟨k, o, none⟩ u) :=
  ⟨h.os, h.tape, h.output, by have := h.size; simpa [World.setCell] using this, fun i hi hb => (Below.heap_setCell _ _ _ _ (by show i ≠ k; omega)).trans (h.block i hi hb)⟩
theorem _root_.Go.Ow.Two.al {w : World} {b : Nat} {t : TypeId} {x y : Value} (h : Two w b t x y) (o : Obj) : Two (w.alloc o) b t x y := h.kept (But.alloc (b + 1) w o) (by omega)
theorem _root_.Go.Ow.Two.sn {w : World} {b k : Nat} {t : TypeId} {x y : Value} (h : Two w b t x y) (o : Nat) (u : Value) (hk : b ≠ k) : Two (w.setCell ⟨k, o, none⟩ u) b t x y := h.kept (But.setCell k w o u) hk
theorem Three.al {w : World} {b : Nat} {x y z : Value} (h : Three w b x y z) (o : Obj) : Three (w.alloc o) b x y z := h.kept (But.alloc (b + 1) w o) (by omega)
theorem Three.sn {w : World} {b k : Nat} {x y z : Value} (h : Three w b x y z) (o : Nat) (u : Value) (hk : b ≠ k) : Three (w.setCell ⟨k, o, none⟩ u) b x y z := h.kept (But.setCell k w o u) hk
end Go.Proofs.YtjakdbahopbggaaGreatDoor.Wr
end
/- What the closure of wire's Reader.Value returns. Conditions: the bytes are not too many. -/
section
/- What wire's Reader.Value returns, and what it does to the reader. Conditions: the bytes are not too many. -/
namespace Go.Wi
/-- a value that a reader reads: Kind, N, T -/
structure Vl where
  k : Nat
  n : Int
  t : List UInt8
def Vl.zero : Vl := ⟨0, 0, []⟩
def Rs.value (r : Rs) : (Vl × Nat) × Rs :=
  match r.num 1099511627776 with
  | ((k, e), r1) =>
    if e ≠ 0 then ((Vl.zero, e), r1)
    else if 3 < k then ((Vl.zero, 4), ⟨[], 4⟩)
    else if k = 1 then match r1.int with
      | ((x, e), r2) => if e ≠ 0 then ((Vl.zero, e), ⟨[], e⟩) else ((⟨1, x, []⟩, 0), r2)
    else if k = 2 then match r1.num 1099511627776 with
      | ((x, e), r2) => if e ≠ 0 then ((Vl.zero, e), ⟨[], e⟩) else if 1 < x then ((Vl.zero, 4), ⟨[], 4⟩) else ((⟨2, x, []⟩, 0), r2)
    else if k = 3 then match r1.text 40 with
      | ((t, e), r2) => if e ≠ 0 then ((Vl.zero, e), ⟨[], e⟩) else ((⟨3, 0, t⟩, 0), r2)
    else ((Vl.zero, 0), r1)

end Go.Wi

/- Layer 2's bytes without their last ones are not read: bytes are missing; what was written is read. Conditions: none. -/

/- Layer 2's bytes: what is read, written anew, are the bytes that were gone over. Conditions: none. -/
end
/- What the codec's reader reads: a number, a small one, a text, a truth, as functions of what is left and whether something was wrong. Conditions: the bytes are not too many. -/
section
namespace Go.Wi
/-- the codec's reader: wire's reader, and whether something was bad -/
structure Cs where
  r : Rs
  bad : Bool
def Cs.num (c : Cs) : Nat × Cs := ((c.r.num 1099511627776).1.1, ⟨(c.r.num 1099511627776).2, c.bad || decide ((c.r.num 1099511627776).1.2 ≠ 0)⟩)
def Cs.text (c : Cs) : List UInt8 × Cs := ((c.r.text 4000).1.1, ⟨(c.r.text 4000).2, c.bad || decide ((c.r.text 4000).1.2 ≠ 0)⟩)
def Cs.small (c : Cs) : Nat × Cs := (c.num.1 % 256, ⟨c.num.2.r, c.num.2.bad || decide (255 < c.num.1)⟩)
def Cs.truth (c : Cs) : Bool × Cs := (decide (c.num.1 = 1), ⟨c.num.2.r, c.num.2.bad || decide (1 < c.num.1)⟩)
end Go.Wi
namespace Go.Ow
open Go.RowKit
/-- all that was there but blocks b and B is as it was -/
structure Bu2 (b B : Nat) (w w' : World) : Prop where
  os : w'.os = w.os
  tape : w'.tape = w.tape
  output : w'.output = w.output
  size : w.heap.size ≤ w'.heap.size
  block : ∀ k, k < w.heap.size → k ≠ b → k ≠ B → w'.heap[k]? = w.heap[k]?
theorem Bu2.refl (b B : Nat) (w : World) : Bu2 b B w w := ⟨rfl, rfl, rfl, Nat.le_refl _, fun _ _ _ _ => rfl⟩
theorem Bu2.trans {b B : Nat} {u v w : World} (h : Bu2 b B u v) (k : Bu2 b B v w) : Bu2 b B u w :=
  ⟨k.os.trans h.os, k.tape.trans h.tape, k.output.trans h.output, Nat.le_trans h.size k.size, fun i hi hb hB => (k.block i (Nat.lt_of_lt_of_le hi h.size) hb hB).trans (h.block i hi hb hB)⟩
theorem Bu2.left {b B : Nat} {w w' : World} (h : But b w w') : Bu2 b B w w' := ⟨h.os, h.tape, h.output, h.size, fun k hk hb _ => h.block k hk hb⟩
theorem Bu2.right {b B : Nat} {w w' : World} (h : But B w w') : Bu2 b B w w' := ⟨h.os, h.tape, h.output, h.size, fun k hk _ hb => h.block k hk hb⟩
theorem Bu2.of_below {b B : Nat} {w w' : World} (h : Below w.heap.size w w') : Bu2 b B w w' := .left (.of_below h)
theorem Bu2.al {b B : Nat} {w w' : World} (h : Bu2 b B w w') (o : Obj) : Bu2 b B w (w'.alloc o) := h.trans (.left (But.alloc b w' o))
theorem Bu2.dr {b B : Nat} {w w' : World} (h : Bu2 b B w w') (n : Nat) : Bu2 b B w (w'.drewN n) := h.trans (.left (But.drewN b w' n))
theorem Bu2.sn {b B k : Nat} {w w' : World} (h : Bu2 b B w w') (o : Nat) (u : Value) (hk : w.heap.size ≤ k) : Bu2 b B w (w'.setCell ⟨k, o, none⟩ u) :=
  ⟨h.os, h.tape, h.output, by have := h.size; simpa [World.setCell] using this, fun i hi hb hB => (Below.heap_setCell _ _ _ _ (by show i ≠ k; omega)).trans (h.block i hi hb hB)⟩
theorem Bu2.below {C b B : Nat} {w w' : World} (h : Bu2 b B w w') (hb : C ≤ b) (hB : C ≤ B) (hs : C ≤ w.heap.size) : Below C w w' :=
  ⟨h.os, h.tape, h.output, h.size, fun k hk => h.block k (by omega) (by omega) (by omega)⟩
theorem Bu2.cell {b B : Nat} {w w' : World} (h : Bu2 b B w w') {k o : Nat} (hk : k < w.heap.size) (hb : k ≠ b) (hB : k ≠ B) : w'.cell? ⟨k, o, none⟩ = w.cell? ⟨k, o, none⟩ := World.cell?_of_block (w := w) (h.block k hk hb hB)
theorem Bu2.frozen {b B : Nat} {w w' : World} (h : Bu2 b B w w') {k o : Nat} (hk : k < w.heap.size) (hb : k ≠ b) (hB : k ≠ B) : w'.frozen? ⟨k, o, none⟩ = w.frozen? ⟨k, o, none⟩ := World.frozen?_of_block (w := w) (h.block k hk hb hB)
end Go.Ow
namespace Go.Proofs.YtjakdbahopbggaaGreatDoor
open Go.RowKit Go.Ow Go.Wi

/-- the codec's reader at block B, wire's at block b -/
structure RdC (w : World) (b B : Nat) (c : Cs) : Prop where
  wr : Wr.RdW w b c.r
  cr : Two w B 128 (pt b) (.bool c.bad)
  ne : b ≠ B
theorem RdC.al {w : World} {b B : Nat} {c : Cs} (h : RdC w b B c) (o : Obj) : RdC (w.alloc o) b B c := ⟨Two.al h.wr o, h.cr.al o, h.ne⟩
theorem RdC.sn {w : World} {b B k : Nat} {c : Cs} (h : RdC w b B c) (o : Nat) (u : Value) (hb : b ≠ k) (hB : B ≠ k) : RdC (w.setCell ⟨k, o, none⟩ u) b B c := ⟨Two.sn h.wr o u hb, h.cr.sn o u hB, h.ne⟩
theorem RdC.below {w w' : World} {b B : Nat} {c : Cs} (h : RdC w b B c) (hb : Below w.heap.size w w') : RdC w' b B c := ⟨Two.keptB h.wr hb (Two.lt h.wr), h.cr.keptB hb h.cr.lt, h.ne⟩

end Go.Proofs.YtjakdbahopbggaaGreatDoor
end
