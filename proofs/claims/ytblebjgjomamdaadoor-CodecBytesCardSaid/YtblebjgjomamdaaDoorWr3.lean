import Derived.Test.YtblebjgjomamdaaDoorWr2
import Derived.Laws.DeepNot64
import Derived.RegionTactic
import Derived.ChangeAlike
import Derived.Outline
/- What wire's Reader.Left, End and Int return, and what they do to the reader. Conditions: the bytes are not too many. -/
namespace Go.Proofs.YtblebjgjomamdaaDoor.Wr
open Go.RowKit Go.Ow Go.Wi

/-- what End answers -/
def Rs.fin (r : Rs) : Nat × Rs := if r.e ≠ 0 then (r.e, r) else if r.l = [] then (0, r) else (4, ⟨[], 4⟩)

theorem end49_ok (B b : Nat) (w : World) (hB : w.cell? ⟨B, 0, none⟩ = some (ptr b)) (hc : w.cell? ⟨b, 0, none⟩ = some (str [])) :
    Calls Tryd.prog 49 #[ptr B] w fun e w' => e = .returned (.tuple #[.int .i64 0, .int .i64 0]) ∧ w = w' := by
  go_enter Tryd.func49, Tryd.ntmps49
  go_wp2
  go_ret2
  exact ⟨rfl, rfl⟩
theorem end49_err (B b : Nat) (l : List UInt8) (w : World) (hl : l ≠ []) (hB : w.cell? ⟨B, 0, none⟩ = some (ptr b)) (hc : w.cell? ⟨b, 0, none⟩ = some (str l)) :
    Calls Tryd.prog 49 #[ptr B] w fun e w' => e = .returned (.tuple #[.int .i64 0, .int .i64 4]) ∧ w = w' := by
  have h1 : ¬ l = [] := hl
  have h2 : l.isEmpty = false := by cases l with | nil => exact absurd rfl hl | cons a t => rfl
  clear hl
  go_enter Tryd.func49, Tryd.ntmps49
  go_wp2
  go_ret2
  exact ⟨rfl, rfl⟩

set_option maxHeartbeats 1000000 in
theorem endW_any (b : Nat) (r : Rs) (w : World) (hr : RdW w b r) :
    Calls Tryd.prog 28 #[ptr b] w fun e w' => e = .returned (.int .i64 (Rs.fin r).1) ∧ But b w w' ∧ RdW w' b (Rs.fin r).2 := by
  obtain ⟨l, c⟩ := r
  have hr' : Two w b 83 (str l) (.int .i64 c) := hr
  clear hr
  obtain ⟨k1, k2⟩ := box_facts (t' := 60) (u := ptr b) hr'
  have K1 := Lib.hid k1
  by_cases hc : c = 0
  · subst hc
    by_cases hl : l = []
    · subst hl
      have e1 : Rs.fin ⟨[], 0⟩ = (0, ⟨[], 0⟩) := by simp [Rs.fin]
      have hcl := (end49_ok w.heap.size b (w.alloc (.cells #[ptr b] 60)) k2 k1.c0).mono (R' := fun e w' => e = .returned (.tuple #[.int .i64 0, .int .i64 0]) ∧ But b (w.alloc (.cells #[ptr b] 60)) w' ∧ Two w' b 83 (str []) (.int .i64 0)) (by rintro e w' ⟨rfl, rfl⟩; exact ⟨rfl, But.refl _ _, K1.out⟩)
      have H := Lib.hid (readEnd_ok b #[ptr w.heap.size] 0 [] _ _ K1.out hcl)
      have E1 := Lib.hid e1
      clear e1 hcl k1 k2
      go_enter Tryd.func28, Tryd.ntmps28
      go_wp2_with (go_at_call 48; refine H.out.mono ?_; rintro e w' ⟨rfl, hb, h2⟩)
      go_ret
      rw [E1.out]
      exact ⟨rfl, (But.alloc b w _).trans hb, h2⟩
    · have e1 : Rs.fin ⟨l, 0⟩ = (4, ⟨[], 4⟩) := by simp [Rs.fin, hl]
      have hcl := (end49_err w.heap.size b l (w.alloc (.cells #[ptr b] 60)) hl k2 k1.c0).mono (R' := fun e w' => e = .returned (.tuple #[.int .i64 0, .int .i64 (4 : Nat)]) ∧ But b (w.alloc (.cells #[ptr b] 60)) w' ∧ ∃ y, Two w' b 83 y (.int .i64 0)) (by rintro e w' ⟨rfl, rfl⟩; exact ⟨rfl, But.refl _ _, _, K1.out⟩)
      have H := Lib.hid (readEnd_err b 4 #[ptr w.heap.size] 0 _ _ (by decide) K1.out hcl)
      have E1 := Lib.hid e1
      clear e1 hcl k1 k2 hl
      go_enter Tryd.func28, Tryd.ntmps28
      go_wp2_with (go_at_call 48; refine H.out.mono ?_; rintro e w' ⟨rfl, hb, h2⟩)
      go_ret
      rw [E1.out]
      exact ⟨rfl, (But.alloc b w _).trans hb, h2⟩
  · have e1 : Rs.fin ⟨l, c⟩ = (c, ⟨l, c⟩) := by simp [Rs.fin, hc]
    have H := Lib.hid (readEnd_bad b c #[ptr w.heap.size] _ (w.alloc (.cells #[ptr b] 60)) hc K1.out)
    have E1 := Lib.hid e1
    clear e1 k1 k2
    go_enter Tryd.func28, Tryd.ntmps28
    go_wp2_with (go_at_call 48; refine H.out.mono ?_; rintro e w' ⟨rfl, n, rfl⟩)
    go_ret
    rw [E1.out]
    exact ⟨rfl, (But.alloc b w _).trans (But.drewN _ _ _), K1.out.drewN _⟩

theorem and1_u64 (n : Nat) (h : n ≤ 18446744073709551615) : bits BinOp.and IntKind.u64 (n : Int) 1 = ((n % 2 : Nat) : Int) := by
  have e := u64_and_nat n 1 (by omega) (by decide)
  have e2 : ((1 : Nat) : Int) = 1 := rfl
  rw [e2] at e
  rw [e, Nat.and_one_is_mod]
theorem xor_comm64 (a b : Int) : bits BinOp.xor IntKind.i64 a b = bits BinOp.xor IntKind.i64 b a := by simp only [bits, BitVec.xor_comm]
theorem xor0_i64 (a : Nat) (h : a < 9223372036854775808) : bits BinOp.xor IntKind.i64 (a : Int) 0 = a := by
  show IntKind.i64.wrap ((BitVec.ofInt 64 (a : Int) ^^^ BitVec.ofInt 64 0).toNat : Int) = _
  rw [BitVec.toNat_xor, ofInt_u64 a (by omega)]
  show IntKind.i64.wrap ((a ^^^ 0 : Nat) : Int) = _
  rw [Nat.xor_zero, IntKind.wrap_i64]
  omega
theorem int39_err (B b : Nat) (l : List UInt8) (c : Nat) (w : World) (hs : l.length ≤ 1000000) (hB : w.cell? ⟨B, 0, none⟩ = some (ptr b)) (hc : w.cell? ⟨b, 0, none⟩ = some (str l)) (hf : w.frozen? ⟨b, 0, none⟩ = false) (h : scan 18446744073709551615 0 0 l = .error c) :
    Calls Tryd.prog 100 #[ptr B] w fun e w' => e = .returned (.tuple #[.int .i64 0, .int .i64 c]) ∧ w = w' := by
  have HH := Lib.hid h
  clear h
  have q1 : bits BinOp.and IntKind.u64 0 1 = 0 := and1_u64 0 (by omega)
  have q2 : bits BinOp.xor IntKind.i64 0 0 = 0 := xor0_i64 0 (by omega)
  go_enter Tryd.func100, Tryd.ntmps100
  go_wp2_with (go_at_call 98; refine (take_err b l 18446744073709551615 c w hs hc hf HH.out).mono ?_; rintro e w' ⟨rfl, rfl⟩)
  go_ret2
  exact ⟨rfl, rfl⟩
theorem int39_ok (B b : Nat) (l : List UInt8) (n : Nat) (l' : List UInt8) (w : World) (hs : l.length ≤ 1000000) (hB : w.cell? ⟨B, 0, none⟩ = some (ptr b)) (hc : w.cell? ⟨b, 0, none⟩ = some (str l)) (hf : w.frozen? ⟨b, 0, none⟩ = false) (h : scan 18446744073709551615 0 0 l = .ok (n, l')) (hn : n ≤ 18446744073709551615) :
    Calls Tryd.prog 100 #[ptr B] w fun e w' => e = .returned (.tuple #[.int .i64 (zag n), .int .i64 0]) ∧ w' = w.setCell ⟨b, 0, none⟩ (str l') := by
  have HH := Lib.hid h
  clear h
  have hp := and1_u64 n hn
  rcases Nat.mod_two_eq_zero_or_one n with h2 | h2
  · have q1 : bits BinOp.and IntKind.u64 (n : Int) 1 = 0 := by rw [hp, h2]; rfl
    have q3 : (n : Int) / 2 = ((n / 2 : Nat) : Int) := by omega
    have q2 : bits BinOp.xor IntKind.i64 ((n / 2 : Nat) : Int) 0 = ((n / 2 : Nat) : Int) := xor0_i64 (n / 2) (by omega)
    have q2' : bits BinOp.xor IntKind.i64 ((n : Int) / 2) 0 = (n : Int) / 2 := by rw [q3]; exact q2
    have HZ : zag n = (n : Int) / 2 := by unfold zag; rw [if_pos h2]; omega
    have HZ := Lib.hid HZ
    clear hp h2 q2 q3
    go_enter Tryd.func100, Tryd.ntmps100
    go_wp2_with (go_at_call 98; refine (take_ok b l 18446744073709551615 n l' w hs hc hf HH.out).mono ?_; rintro e w' ⟨rfl, rfl⟩)
    go_ret2
    rw [HZ.out]
    exact ⟨rfl, rfl⟩
  · have q1 : bits BinOp.and IntKind.u64 (n : Int) 1 = 1 := by rw [hp, h2]; rfl
    have q3 : (n : Int) / 2 = ((n / 2 : Nat) : Int) := by omega
    have q2' : bits BinOp.xor IntKind.i64 ((n : Int) / 2) (-1) = -1 - (n : Int) / 2 := by rw [q3, xor_comm64]; exact i64_not (n / 2) (by omega)
    have HZ : zag n = -1 - (n : Int) / 2 := by unfold zag; rw [if_neg (by omega)]; omega
    have HZ := Lib.hid HZ
    clear hp h2 q3
    go_enter Tryd.func100, Tryd.ntmps100
    go_wp2_with (go_at_call 98; refine (take_ok b l 18446744073709551615 n l' w hs hc hf HH.out).mono ?_; rintro e w' ⟨rfl, rfl⟩)
    go_ret2
    rw [HZ.out]
    exact ⟨rfl, rfl⟩

set_option maxHeartbeats 1000000 in
theorem intW_any (b : Nat) (r : Rs) (w : World) (hr : RdW w b r) (hl : r.l.length ≤ 1000000) :
    Calls Tryd.prog 82 #[ptr b] w fun e w' => e = .returned (.tuple #[.int .i64 r.int.1.1, .int .i64 r.int.1.2]) ∧ But b w w' ∧ RdW w' b r.int.2 := by
  obtain ⟨l, c⟩ := r
  have hr' : Two w b 83 (str l) (.int .i64 c) := hr
  clear hr
  obtain ⟨k1, k2⟩ := box_facts (t' := 60) (u := ptr b) hr'
  have K1 := Lib.hid k1
  by_cases hc : c = 0
  · subst hc
    cases hs : scan 18446744073709551615 0 0 l with
    | error c =>
      have hc0 : c ≠ 0 := by have := scan_err _ _ _ _ _ hs; omega
      have e1 : (Rs.mk l 0).int = ((0, c), ⟨[], c⟩) := by simp [Rs.int, Rs.num, hs, hc0]
      have hcl := (int39_err w.heap.size b l c (w.alloc (.cells #[ptr b] 60)) hl k2 k1.c0 (k1.fz 0) hs).mono (R' := fun e w' => e = .returned (.tuple #[.int .i64 0, .int .i64 c]) ∧ But b (w.alloc (.cells #[ptr b] 60)) w' ∧ ∃ y, Two w' b 83 y (.int .i64 0)) (by rintro e w' ⟨rfl, rfl⟩; exact ⟨rfl, But.refl _ _, _, K1.out⟩)
      have H := Lib.hid (readInt_err b c #[ptr w.heap.size] 0 _ _ hc0 K1.out hcl)
      have E1 := Lib.hid e1
      clear e1 hcl hs k1 k2 hl hc0
      go_enter Tryd.func82, Tryd.ntmps82
      go_wp2_with (go_at_call 99; refine H.out.mono ?_; rintro e w' ⟨rfl, hb, h2⟩)
      go_ret2
      rw [E1.out]
      exact ⟨rfl, (But.alloc b w _).trans hb, h2⟩
    | ok p =>
      obtain ⟨n, l'⟩ := p
      have e1 : (Rs.mk l 0).int = ((zag n, 0), ⟨l', 0⟩) := by simp [Rs.int, Rs.num, hs]
      have hcl := (int39_ok w.heap.size b l n l' (w.alloc (.cells #[ptr b] 60)) hl k2 k1.c0 (k1.fz 0) hs (scan_le _ _ _ _ _ _ hs).1).mono (R' := fun e w' => e = .returned (.tuple #[.int .i64 (zag n), .int .i64 0]) ∧ But b (w.alloc (.cells #[ptr b] 60)) w' ∧ Two w' b 83 (str l') (.int .i64 0)) (by rintro e w' ⟨rfl, rfl⟩; exact ⟨rfl, But.setCell _ _ _ _, K1.out.set0 _⟩)
      have H := Lib.hid (readInt_ok b #[ptr w.heap.size] (zag n) l' _ _ K1.out hcl)
      have E1 := Lib.hid e1
      clear e1 hcl hs k1 k2 hl
      go_enter Tryd.func82, Tryd.ntmps82
      go_wp2_with (go_at_call 99; refine H.out.mono ?_; rintro e w' ⟨rfl, hb, h2⟩)
      go_ret2
      rw [E1.out]
      exact ⟨rfl, (But.alloc b w _).trans hb, h2⟩
  · have e1 : (Rs.mk l c).int = ((0, c), ⟨l, c⟩) := by simp [Rs.int, Rs.num, hc]
    have H := Lib.hid (readInt_bad b c #[ptr w.heap.size] _ (w.alloc (.cells #[ptr b] 60)) hc K1.out)
    have E1 := Lib.hid e1
    clear e1 k1 k2 hl
    go_enter Tryd.func82, Tryd.ntmps82
    go_wp2_with (go_at_call 99; refine H.out.mono ?_; rintro e w' ⟨rfl, n, rfl⟩)
    go_ret2
    rw [E1.out]
    exact ⟨rfl, (But.alloc b w _).trans (But.drewN _ _ _), K1.out.drewN _⟩
end Go.Proofs.YtblebjgjomamdaaDoor.Wr

/- What wire's Reader.Text returns, and what it does to the reader. Conditions: the bytes are not too many. -/
namespace Go.Proofs.YtblebjgjomamdaaDoor.Wr
open Go.RowKit Go.Ow Go.Wi

set_option maxHeartbeats 1000000 in
theorem readText_er (b c : Nat) (caps : Array Value) (v : ByteArray) (x : Value) (w : World) (hc : c ≠ 0) (h : Two w b 83 x (.int .i64 0))
    (hcl : Calls Tryd.prog 78 caps w fun e w' => e = .returned (.tuple #[.string v, .int .i64 c]) ∧ But b w w' ∧ ∃ y z, Two w' b 83 y z) :
    Calls Tryd.prog 77 #[ptr b, .func (Fn.func 78) #[] caps] w fun e w' => e = .returned (.tuple #[str [], .int .i64 c]) ∧ But b w w' ∧ Two w' b 83 (str []) (.int .i64 c) := by
  have h1 := h.c1
  clear h
  have HC := Lib.hid hc
  have hc' : ((c : Int) == 0) = false := by rw [beq_eq_false_iff_ne]; omega
  have hc'' : ((c : Int) != 0) = true := by rw [bne_iff_ne]; omega
  clear hc
  go_enter Tryd.func77, Tryd.ntmps77
  go_wp2_with (go_at_call 78; refine hcl.mono ?_; rintro e w1 ⟨rfl, hb, y, z, h2⟩; have k0 := h2.c0; have k1 := h2.c1; have f0 := h2.fz 0; have f1 := h2.fz 1)
  go_ret2
  exact ⟨rfl, (hb.trans (But.setCell b _ 0 _)).trans (But.setCell b _ 1 _), (h2.set0 _).set1 _⟩

theorem numW_err (b : Nat) (l : List UInt8) (c : Nat) (w : World) (hr : Two w b 83 (str l) (.int .i64 0)) (hl : l.length ≤ 1000000) (h : scan 1099511627776 0 0 l = .error c) :
    Calls Tryd.prog 79 #[ptr b] w fun e w' => e = .returned (.tuple #[.int .i64 0, .int .i64 c]) ∧ But b w w' ∧ Two w' b 83 (str []) (.int .i64 c) := by
  refine (numW_any b ⟨l, 0⟩ w hr hl).mono ?_
  intro e w' hp
  have e1 : (Rs.mk l 0).num 1099511627776 = ((0, c), ⟨[], c⟩) := by simp [Rs.num, h]
  rw [e1] at hp
  exact hp
theorem numW_ok (b : Nat) (l : List UInt8) (n : Nat) (l' : List UInt8) (w : World) (hr : Two w b 83 (str l) (.int .i64 0)) (hl : l.length ≤ 1000000) (h : scan 1099511627776 0 0 l = .ok (n, l')) :
    Calls Tryd.prog 79 #[ptr b] w fun e w' => e = .returned (.tuple #[.int .i64 n, .int .i64 0]) ∧ But b w w' ∧ Two w' b 83 (str l') (.int .i64 0) := by
  refine (numW_any b ⟨l, 0⟩ w hr hl).mono ?_
  intro e w' hp
  have e1 : (Rs.mk l 0).num 1099511627776 = ((n, 0), ⟨l', 0⟩) := by simp [Rs.num, h]
  rw [e1] at hp
  exact hp

/-- a captured variable: one cell, not the reader's -/
structure Cap (w : World) (B b : Nat) (u : Value) : Prop where
  cell : w.cell? ⟨B, 0, none⟩ = some u
  lt : B < w.heap.size
  ne : B ≠ b
theorem Cap.kept {w w' : World} {B b : Nat} {u : Value} (h : Cap w B b u) (k : But b w w') : Cap w' B b u := ⟨by rw [k.cell h.lt h.ne]; exact h.cell, Nat.lt_of_lt_of_le h.lt k.size, h.ne⟩

set_option maxHeartbeats 1000000 in
theorem text42_err1 (B M b : Nat) (l : List UInt8) (c : Nat) (w : World) (hs : l.length ≤ 1000000) (hB : Cap w B b (ptr b)) (hr : Two w b 83 (str l) (.int .i64 0)) (h : scan 1099511627776 0 0 l = .error c) :
    Calls Tryd.prog 78 #[ptr B, ptr M] w fun e w' => e = .returned (.tuple #[str [], .int .i64 c]) ∧ But b w w' ∧ ∃ y z, Two w' b 83 y z := by
  have hc : c ≠ 0 := by have := scan_err _ _ _ _ _ h; omega
  have hc'' : ((c : Int) != 0) = true := by rw [bne_iff_ne]; omega
  have H := Lib.hid (numW_err b l c w hr hs h)
  have hb := hB.cell
  clear h hc hB hr
  go_enter Tryd.func78, Tryd.ntmps78
  go_wp2_with (go_at_call 79; refine H.out.mono ?_; rintro e w1 ⟨rfl, hb, h2⟩)
  go_ret2
  exact ⟨rfl, hb, _, _, h2⟩

set_option maxHeartbeats 1000000 in
theorem text42_err2 (B M b : Nat) (most : Int) (l l' : List UInt8) (n : Nat) (w : World) (hs : l.length ≤ 1000000) (hB : Cap w B b (ptr b)) (hM : Cap w M b (.int .i64 most)) (hr : Two w b 83 (str l) (.int .i64 0)) (h : scan 1099511627776 0 0 l = .ok (n, l')) (hm : most < n) :
    Calls Tryd.prog 78 #[ptr B, ptr M] w fun e w' => e = .returned (.tuple #[str [], .int .i64 40]) ∧ But b w w' ∧ ∃ y z, Two w' b 83 y z := by
  have H := Lib.hid (numW_ok b l n l' w hr hs h)
  have HM := Lib.hid hM
  have hb := hB.cell
  have hn : n ≤ 1099511627776 := (scan_le _ _ _ _ _ _ h).1
  clear h hB hM hr
  go_enter Tryd.func78, Tryd.ntmps78
  go_wp2_with (go_at_call 79; refine H.out.mono ?_; rintro e w1 ⟨rfl, hb, h2⟩; have m1 := (HM.out.kept hb).cell)
  go_ret2
  exact ⟨rfl, hb, _, _, h2⟩

set_option maxHeartbeats 1000000 in
theorem text42_err3 (B M b : Nat) (most : Int) (l l' : List UInt8) (n : Nat) (w : World) (hs : l.length ≤ 1000000) (hB : Cap w B b (ptr b)) (hM : Cap w M b (.int .i64 most)) (hr : Two w b 83 (str l) (.int .i64 0)) (h : scan 1099511627776 0 0 l = .ok (n, l')) (hm : (n : Int) ≤ most) (hn' : l'.length < n) :
    Calls Tryd.prog 78 #[ptr B, ptr M] w fun e w' => e = .returned (.tuple #[str [], .int .i64 8]) ∧ But b w w' ∧ ∃ y z, Two w' b 83 y z := by
  have H := Lib.hid (numW_ok b l n l' w hr hs h)
  have HM := Lib.hid hM
  have HB := Lib.hid hB
  have hb := hB.cell
  have hn : n ≤ 1099511627776 := (scan_le _ _ _ _ _ _ h).1
  have hsz := size_mk l'
  clear h hB hM hr
  go_enter Tryd.func78, Tryd.ntmps78
  go_wp2_with (go_at_call 79; refine H.out.mono ?_; rintro e w1 ⟨rfl, hb, h2⟩; have m1 := (HM.out.kept hb).cell; have b1 := (HB.out.kept hb).cell; have r1 := h2.c0)
  go_ret2
  exact ⟨rfl, hb, _, _, h2⟩
theorem ext_take (l : List UInt8) (n : Nat) : (⟨l.toArray⟩ : ByteArray).extract 0 n = ⟨(l.take n).toArray⟩ := by
  apply ByteArray.ext
  apply Array.toList_inj.1
  rw [ByteArray.data_extract, Array.toList_extract, List.extract_eq_take_drop]
  simp
theorem ext_drop' (l : List UInt8) (n : Nat) : (⟨l.toArray⟩ : ByteArray).extract n l.length = ⟨(l.drop n).toArray⟩ := by
  have := ext_drop ⟨l.toArray⟩ n
  rw [size_mk] at this
  exact this.symm

set_option maxHeartbeats 1000000 in
theorem text42_ok (B M b : Nat) (most : Int) (l l' : List UInt8) (n : Nat) (w : World) (hs : l.length ≤ 1000000) (hB : Cap w B b (ptr b)) (hM : Cap w M b (.int .i64 most)) (hr : Two w b 83 (str l) (.int .i64 0)) (h : scan 1099511627776 0 0 l = .ok (n, l')) (hm : (n : Int) ≤ most) (hn' : n ≤ l'.length) :
    Calls Tryd.prog 78 #[ptr B, ptr M] w fun e w' => e = .returned (.tuple #[str (l'.take n), .int .i64 0]) ∧ But b w w' ∧ Two w' b 83 (str (l'.drop n)) (.int .i64 0) := by
  have H := Lib.hid (numW_ok b l n l' w hr hs h)
  have HM := Lib.hid hM
  have HB := Lib.hid hB
  have hb := hB.cell
  have hn : n ≤ 1099511627776 := (scan_le _ _ _ _ _ _ h).1
  have hsz := size_mk l'
  have hll : l'.length ≤ 1000000 := by have := (scan_le _ _ _ _ _ _ h).2; omega
  clear h hB hM hr
  go_enter Tryd.func78, Tryd.ntmps78
  go_wp2_with (go_at_call 79; refine H.out.mono ?_; rintro e w1 ⟨rfl, hb, h2⟩; have m1 := (HM.out.kept hb).cell; have b1 := (HB.out.kept hb).cell; have r1 := h2.c0; have f1 := h2.fz 0)
  go_region
  go_wp2
  go_ret2
  have e1 : str (l'.take n) = .string ((⟨l'.toArray⟩ : ByteArray).extract 0 n) := congrArg Value.string (ext_take l' n).symm
  have e2 : str (l'.drop n) = .string ((⟨l'.toArray⟩ : ByteArray).extract n l'.length) := congrArg Value.string (ext_drop' l' n).symm
  rw [e1, e2]
  exact ⟨rfl, ((hb.trans (But.drewN b _ _)).trans (But.setCell b _ 0 _)), h2.set0 _⟩

abbrev capW (w : World) (b : Nat) (most : Int) : World := (w.alloc (.cells #[ptr b] 60)).alloc (.cells #[.int .i64 most] 3)
theorem cap_facts {w : World} {b : Nat} {x y : Value} (most : Int) (h : Two w b 83 x y) : Two (capW w b most) b 83 x y ∧ Cap (capW w b most) w.heap.size b (ptr b) ∧ Cap (capW w b most) (w.heap.size + 1) b (.int .i64 most) := by
  have hl := h.lt
  refine ⟨(h.kept (But.alloc (w.heap.size + 5) w _) (by omega)).kept (But.alloc (w.heap.size + 5) _ _) (by omega), ⟨?_, by simp; omega, by omega⟩, ⟨?_, by simp, by omega⟩⟩
  · have := (But.alloc b (w.alloc (.cells #[ptr b] 60)) (.cells #[.int .i64 most] 3)).cell (k := w.heap.size) (o := 0) (by simp) (by omega)
    rw [this]; simp
  · have : (w.alloc (.cells #[ptr b] 60)).heap.size = w.heap.size + 1 := by simp
    rw [← this]; simp
set_option maxHeartbeats 1000000 in
theorem textW_any (b : Nat) (most : Int) (r : Rs) (w : World) (hr : RdW w b r) (hl : r.l.length ≤ 1000000) :
    Calls Tryd.prog 40 #[ptr b, .int .i64 most] w fun e w' => e = .returned (.tuple #[str (r.text most).1.1, .int .i64 (r.text most).1.2]) ∧ But b w w' ∧ RdW w' b (r.text most).2 := by
  obtain ⟨l, c⟩ := r
  have hr' : Two w b 83 (str l) (.int .i64 c) := hr
  clear hr
  obtain ⟨k1, k2, k3⟩ := cap_facts most hr'
  have K1 := Lib.hid k1
  by_cases hc : c = 0
  · subst hc
    cases hs : scan 1099511627776 0 0 l with
    | error c =>
      have hc0 : c ≠ 0 := by have := scan_err _ _ _ _ _ hs; omega
      have e1 : (Rs.mk l 0).text most = (([], c), ⟨[], c⟩) := by simp [Rs.text, Rs.num, hs, hc0]
      have hcl := text42_err1 w.heap.size (w.heap.size + 1) b l c (capW w b most) hl k2 k1 hs
      have H := Lib.hid (readText_er b c #[ptr w.heap.size, ptr (w.heap.size + 1)] ⟨#[]⟩ _ _ hc0 K1.out hcl)
      have E1 := Lib.hid e1
      clear e1 hcl hs k1 k2 k3 hl hc0
      go_enter Tryd.func40, Tryd.ntmps40
      go_wp2_with (go_at_call 77; refine H.out.mono ?_; rintro e w' ⟨rfl, hb, h2⟩)
      go_ret2
      rw [E1.out]
      exact ⟨rfl, ((But.alloc b w _).trans (But.alloc b _ _)).trans hb, h2⟩
    | ok p =>
      obtain ⟨n, l'⟩ := p
      by_cases hm : most < n
      · have e1 : (Rs.mk l 0).text most = (([], 40), ⟨[], 40⟩) := by simp [Rs.text, Rs.num, hs, hm]
        have hcl := text42_err2 w.heap.size (w.heap.size + 1) b most l l' n (capW w b most) hl k2 k3 k1 hs hm
        have H := Lib.hid (readText_er b 40 #[ptr w.heap.size, ptr (w.heap.size + 1)] ⟨#[]⟩ _ _ (by decide) K1.out hcl)
        have E1 := Lib.hid e1
        clear e1 hcl hs k1 k2 k3 hl
        go_enter Tryd.func40, Tryd.ntmps40
        go_wp2_with (go_at_call 77; refine H.out.mono ?_; rintro e w' ⟨rfl, hb, h2⟩)
        go_ret2
        rw [E1.out]
        exact ⟨rfl, ((But.alloc b w _).trans (But.alloc b _ _)).trans hb, h2⟩
      · by_cases hn : l'.length < n
        · have e1 : (Rs.mk l 0).text most = (([], 8), ⟨[], 8⟩) := by simp [Rs.text, Rs.num, hs, hm, hn]
          have hcl := text42_err3 w.heap.size (w.heap.size + 1) b most l l' n (capW w b most) hl k2 k3 k1 hs (by omega) hn
          have H := Lib.hid (readText_er b 8 #[ptr w.heap.size, ptr (w.heap.size + 1)] ⟨#[]⟩ _ _ (by decide) K1.out hcl)
          have E1 := Lib.hid e1
          clear e1 hcl hs k1 k2 k3 hl hm hn
          go_enter Tryd.func40, Tryd.ntmps40
          go_wp2_with (go_at_call 77; refine H.out.mono ?_; rintro e w' ⟨rfl, hb, h2⟩)
          go_ret2
          rw [E1.out]
          exact ⟨rfl, ((But.alloc b w _).trans (But.alloc b _ _)).trans hb, h2⟩
        · have e1 : (Rs.mk l 0).text most = ((l'.take n, 0), ⟨l'.drop n, 0⟩) := by simp [Rs.text, Rs.num, hs, hm, hn]
          have hcl := text42_ok w.heap.size (w.heap.size + 1) b most l l' n (capW w b most) hl k2 k3 k1 hs (by omega) (by omega)
          have H := Lib.hid (readText_ok b #[ptr w.heap.size, ptr (w.heap.size + 1)] ⟨(l'.take n).toArray⟩ (l'.drop n) _ _ K1.out hcl)
          have E1 := Lib.hid e1
          clear e1 hcl hs k1 k2 k3 hl hm hn
          go_enter Tryd.func40, Tryd.ntmps40
          go_wp2_with (go_at_call 77; refine H.out.mono ?_; rintro e w' ⟨rfl, hb, h2⟩)
          go_ret2
          rw [E1.out]
          exact ⟨rfl, ((But.alloc b w _).trans (But.alloc b _ _)).trans hb, h2⟩
  · have e1 : (Rs.mk l c).text most = (([], c), ⟨l, c⟩) := by simp [Rs.text, Rs.num, hc]
    have H := Lib.hid (readText_bad b c #[ptr w.heap.size, ptr (w.heap.size + 1)] _ (capW w b most) hc K1.out)
    have E1 := Lib.hid e1
    clear e1 k1 k2 k3 hl
    go_enter Tryd.func40, Tryd.ntmps40
    go_wp2_with (go_at_call 77; refine H.out.mono ?_; rintro e w' ⟨rfl, n, rfl⟩)
    go_ret2
    rw [E1.out]
    exact ⟨rfl, ((But.alloc b w _).trans (But.alloc b _ _)).trans (But.drewN _ _ _), K1.out.drewN _⟩
end Go.Proofs.YtblebjgjomamdaaDoor.Wr

/- What wire's read[Value] returns, by what its closure returns. Conditions: none. -/
namespace Go.Proofs.YtblebjgjomamdaaDoor.Wr
open Go.RowKit Go.Ow Go.Wi

/-- a value, as data -/
abbrev vVal (k n : Int) (t : ByteArray) : Value := .agg #[.int .u8 k, .int .i64 n, .string t]
abbrev val0 : Value := .agg #[.int .u8 0, .int .i64 0, .string ⟨#[]⟩]
abbrev obj0 : Obj := .cells #[.int .u8 0, .int .i64 0, .string ⟨#[]⟩] 47

/-- a value's block: three cells -/
def Three (w : World) (b : Nat) (x y z : Value) : Prop := w.heap[b]? = some (.cells #[x, y, z] 47 (0, 0))
theorem Three.lt {w : World} {b : Nat} {x y z : Value} (h : Three w b x y z) : b < w.heap.size := (Array.getElem?_eq_some_iff.1 h).1
theorem Three.c0 {w : World} {b : Nat} {x y z : Value} (h : Three w b x y z) : w.cell? ⟨b, 0, none⟩ = some x := by rw [cell_of_row w b 0 _ 47 (0, 0) h]; rfl
theorem Three.c1 {w : World} {b : Nat} {x y z : Value} (h : Three w b x y z) : w.cell? ⟨b, 1, none⟩ = some y := by rw [cell_of_row w b 1 _ 47 (0, 0) h]; rfl
theorem Three.c2 {w : World} {b : Nat} {x y z : Value} (h : Three w b x y z) : w.cell? ⟨b, 2, none⟩ = some z := by rw [cell_of_row w b 2 _ 47 (0, 0) h]; rfl
theorem Three.fz {w : World} {b : Nat} {x y z : Value} (h : Three w b x y z) (o : Nat) : w.frozen? ⟨b, o, none⟩ = false := by
  have h' : w.heap[b]? = some (.cells #[x, y, z] 47 (0, 0)) := h
  unfold World.frozen?
  rw [h']
  simp
theorem Three.kept {w w' : World} {b c : Nat} {x y z : Value} (h : Three w b x y z) (k : But c w w') (hb : b ≠ c) : Three w' b x y z := by
  unfold Three
  rw [k.block b h.lt hb]
  exact h
theorem Three.set0 {w : World} {b : Nat} {x y z : Value} (h : Three w b x y z) (u : Value) : Three (w.setCell ⟨b, 0, none⟩ u) b u y z := by
  have h' : w.heap[b]? = some (.cells #[x, y, z] 47 (0, 0)) := h
  unfold Three
  simp [World.setCell, Array.getElem?_modify, h']
theorem Three.set1 {w : World} {b : Nat} {x y z : Value} (h : Three w b x y z) (u : Value) : Three (w.setCell ⟨b, 1, none⟩ u) b x u z := by
  have h' : w.heap[b]? = some (.cells #[x, y, z] 47 (0, 0)) := h
  unfold Three
  simp [World.setCell, Array.getElem?_modify, h']
theorem Three.set2 {w : World} {b : Nat} {x y z : Value} (h : Three w b x y z) (u : Value) : Three (w.setCell ⟨b, 2, none⟩ u) b x y u := by
  have h' : w.heap[b]? = some (.cells #[x, y, z] 47 (0, 0)) := h
  unfold Three
  simp [World.setCell, Array.getElem?_modify, h']
theorem three_new (w : World) (x y z : Value) : Three (w.alloc (.cells #[x, y, z] 47)) w.heap.size x y z := heap_alloc_new w _

theorem _root_.Go.Ow.But.al {b : Nat} {w w1 : World} (h : But b w w1) (o : Obj) : But b w (w1.alloc o) := h.trans (But.alloc b w1 o)
theorem _root_.Go.Ow.But.dr {b : Nat} {w w1 : World} (h : But b w w1) (n : Nat) : But b w (w1.drewN n) := h.trans (But.drewN b w1 n)
theorem _root_.Go.Ow.But.se {b : Nat} {w w1 : World} (h : But b w w1) (o : Nat) (u : Value) : But b w (w1.setCell ⟨b, o, none⟩ u) := h.trans (But.setCell b w1 o u)
theorem _root_.Go.Ow.But.sn {b k : Nat} {w w1 : World} (h : But b w w1) (o : Nat) (u : Value) (hk : w.heap.size ≤ k) : But b w (w1.setCell ⟨k, o, none⟩ u) :=
  ⟨h.os, h.tape, h.output, by have := h.size; simpa [World.setCell] using this, fun i hi hb => (Below.heap_setCell _ _ _ _ (by show i ≠ k; omega)).trans (h.block i hi hb)⟩
theorem _root_.Go.Ow.Two.al {w : World} {b : Nat} {t : TypeId} {x y : Value} (h : Two w b t x y) (o : Obj) : Two (w.alloc o) b t x y := h.kept (But.alloc (b + 1) w o) (by omega)
theorem _root_.Go.Ow.Two.sn {w : World} {b k : Nat} {t : TypeId} {x y : Value} (h : Two w b t x y) (o : Nat) (u : Value) (hk : b ≠ k) : Two (w.setCell ⟨k, o, none⟩ u) b t x y := h.kept (But.setCell k w o u) hk
theorem Three.al {w : World} {b : Nat} {x y z : Value} (h : Three w b x y z) (o : Obj) : Three (w.alloc o) b x y z := h.kept (But.alloc (b + 1) w o) (by omega)
theorem Three.sn {w : World} {b k : Nat} {x y z : Value} (h : Three w b x y z) (o : Nat) (u : Value) (hk : b ≠ k) : Three (w.setCell ⟨k, o, none⟩ u) b x y z := h.kept (But.setCell k w o u) hk
set_option maxHeartbeats 1000000 in
theorem readValue_bad (b c : Nat) (caps : Array Value) (x : Value) (w : World) (hc : c ≠ 0) (h : Two w b 83 x (.int .i64 c)) :
    Calls Tryd.prog 80 #[ptr b, .func (Fn.func 81) #[] caps] w fun e w' => e = .returned (.tuple #[val0, .int .i64 c]) ∧ But b w w' ∧ Two w' b 83 x (.int .i64 c) := by
  have h1 := h.c1
  have hlt := h.lt
  have hc' : ((c : Int) == 0) = false := by rw [beq_eq_false_iff_ne]; omega
  have hc'' : ((c : Int) != 0) = true := by rw [bne_iff_ne]; omega
  have HH := Lib.hid h
  clear h hc
  go_enter Tryd.func80, Tryd.ntmps80
  go_wp2
  go_region
  go_wp2
  refine bodyPost_ret (v := .tuple #[val0, .int .i64 c]) (by simp [results, Tryd.results80, go_sem]) rfl ⟨rfl, (But.alloc b w _).trans (But.drewN b _ 1), ?_⟩
  exact (HH.out.kept (But.alloc (w.heap.size + 1) w _) (by omega)).drewN 1
set_option maxHeartbeats 1000000 in
theorem readValue_err (b c : Nat) (caps : Array Value) (k n : Int) (t : ByteArray) (x : Value) (w : World) (hc : c ≠ 0) (h : Two w b 83 x (.int .i64 0))
    (hcl : Calls Tryd.prog 81 caps (w.alloc obj0) fun e w' => e = .returned (.tuple #[vVal k n t, .int .i64 c]) ∧ But b (w.alloc obj0) w' ∧ ∃ y z, Two w' b 83 y z) :
    Calls Tryd.prog 80 #[ptr b, .func (Fn.func 81) #[] caps] w fun e w' => e = .returned (.tuple #[val0, .int .i64 c]) ∧ But b w w' ∧ Two w' b 83 (str []) (.int .i64 c) := by
  have h1 := h.c1
  have hlt := h.lt
  clear h
  have HC := Lib.hid hc
  have hc' : ((c : Int) == 0) = false := by rw [beq_eq_false_iff_ne]; omega
  have hc'' : ((c : Int) != 0) = true := by rw [bne_iff_ne]; omega
  clear hc
  go_enter Tryd.func80, Tryd.ntmps80
  go_wp2_with (go_at_call 81; refine hcl.mono ?_; rintro e w1 ⟨rfl, hb, y, z, h2⟩; have k0 := h2.c0; have k1 := h2.c1; have f0 := h2.fz 0; have f1 := h2.fz 1; have hl1 := h2.lt; have hV := (three_new w (.int .u8 0) (.int .i64 0) (.string ⟨#[]⟩)).kept hb (by omega); have v0 := hV.c0; have v1 := hV.c1; have v2 := hV.c2; have g0 := hV.fz 0; have g1 := hV.fz 1; have g2 := hV.fz 2; have hV' := hV.lt; clear hV)
  have hW := (But.alloc b w obj0).trans hb
  clear hcl
  refine bodyPost_ret (v := .tuple #[val0, .int .i64 c]) (by simp [results, Tryd.results80, go_sem, *]) rfl ⟨rfl, ?_, ?_⟩
  · exact (((((hW.se _ _).se _ _).sn _ _ (Nat.le_refl _)).sn _ _ (Nat.le_refl _)).sn _ _ (Nat.le_refl _)).al _
  · exact (((((h2.set0 _).set1 _).sn _ _ (by omega)).sn _ _ (by omega)).sn _ _ (by omega)).al _
set_option maxHeartbeats 1000000 in
theorem readValue_ok (b : Nat) (caps : Array Value) (k n : Int) (t : ByteArray) (l : List UInt8) (x : Value) (w : World) (h : Two w b 83 x (.int .i64 0))
    (hcl : Calls Tryd.prog 81 caps (w.alloc obj0) fun e w' => e = .returned (.tuple #[vVal k n t, .int .i64 0]) ∧ But b (w.alloc obj0) w' ∧ Two w' b 83 (str l) (.int .i64 0)) :
    Calls Tryd.prog 80 #[ptr b, .func (Fn.func 81) #[] caps] w fun e w' => e = .returned (.tuple #[vVal k n t, .int .i64 0]) ∧ But b w w' ∧ Two w' b 83 (str l) (.int .i64 0) := by
  have h1 := h.c1
  have hlt := h.lt
  clear h
  go_enter Tryd.func80, Tryd.ntmps80
  go_wp2_with (go_at_call 81; refine hcl.mono ?_; rintro e w1 ⟨rfl, hb, h2⟩; have hl1 := h2.lt; have hV := (three_new w (.int .u8 0) (.int .i64 0) (.string ⟨#[]⟩)).kept hb (by omega); have v0 := hV.c0; have v1 := hV.c1; have v2 := hV.c2; have g0 := hV.fz 0; have g1 := hV.fz 1; have g2 := hV.fz 2; have hV' := hV.lt; clear hV)
  have hW := (But.alloc b w obj0).trans hb
  clear hcl
  refine bodyPost_ret (v := .tuple #[vVal k n t, .int .i64 0]) (by simp [results, Tryd.results80, go_sem, *]) rfl ⟨rfl, ?_, ?_⟩
  · exact (((hW.sn _ _ (Nat.le_refl _)).sn _ _ (Nat.le_refl _)).sn _ _ (Nat.le_refl _)).al _
  · exact (((h2.sn _ _ (by omega)).sn _ _ (by omega)).sn _ _ (by omega)).al _
end Go.Proofs.YtblebjgjomamdaaDoor.Wr

