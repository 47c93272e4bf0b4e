/- What wire's Reader.Left, End and Int return, and what they do to the reader. Conditions: the bytes are not too many. -/
import Derived.Test.YtlflkmigfggdjaaWireM1
import Derived.Laws.DeepNot64
namespace Go.Proofs.Ytlflkmigfggdjaa
open Go.RowKit Go.Ow Go.Wi

theorem leftW_any (b : Nat) (r : Rs) (w : World) (hr : RdW w b r) :
    Calls Try.prog 27 #[ptr b] w fun e w' => e = .returned (.int .i64 r.l.length) ∧ w = w' := by
  have k0 := Two.c0 hr
  have hsz := size_mk r.l
  clear hr
  go_enter Try.func27, Try.ntmps27
  go_wp2
  go_ret
  exact ⟨rfl, rfl⟩

/-- what End answers -/
def Rs.fin (r : Rs) : Nat × Rs := if r.e ≠ 0 then (r.e, r) else if r.l = [] then (0, r) else (4, ⟨[], 4⟩)

theorem end49_ok (B b : Nat) (w : World) (hB : w.cell? ⟨B, 0, none⟩ = some (ptr b)) (hc : w.cell? ⟨b, 0, none⟩ = some (str [])) :
    Calls Try.prog 49 #[ptr B] w fun e w' => e = .returned (.tuple #[.int .i64 0, .int .i64 0]) ∧ w = w' := by
  go_enter Try.func49, Try.ntmps49
  go_wp2
  go_ret2
  exact ⟨rfl, rfl⟩
theorem end49_err (B b : Nat) (l : List UInt8) (w : World) (hl : l ≠ []) (hB : w.cell? ⟨B, 0, none⟩ = some (ptr b)) (hc : w.cell? ⟨b, 0, none⟩ = some (str l)) :
    Calls Try.prog 49 #[ptr B] w fun e w' => e = .returned (.tuple #[.int .i64 0, .int .i64 4]) ∧ w = w' := by
  have h1 : ¬ l = [] := hl
  have h2 : l.isEmpty = false := by cases l with | nil => exact absurd rfl hl | cons a t => rfl
  clear hl
  go_enter Try.func49, Try.ntmps49
  go_wp2
  go_ret2
  exact ⟨rfl, rfl⟩

set_option maxHeartbeats 1000000 in
theorem endW_any (b : Nat) (r : Rs) (w : World) (hr : RdW w b r) :
    Calls Try.prog 32 #[ptr b] w fun e w' => e = .returned (.int .i64 (Rs.fin r).1) ∧ But b w w' ∧ RdW w' b (Rs.fin r).2 := by
  obtain ⟨l, c⟩ := r
  have hr' : Two w b 67 (str l) (.int .i64 c) := hr
  clear hr
  obtain ⟨k1, k2⟩ := box_facts (t' := 37) (u := ptr b) hr'
  have K1 := Lib.hid k1
  by_cases hc : c = 0
  · subst hc
    by_cases hl : l = []
    · subst hl
      have e1 : Rs.fin ⟨[], 0⟩ = (0, ⟨[], 0⟩) := by simp [Rs.fin]
      have hcl := (end49_ok w.heap.size b (w.alloc (.cells #[ptr b] 37)) k2 k1.c0).mono (R' := fun e w' => e = .returned (.tuple #[.int .i64 0, .int .i64 0]) ∧ But b (w.alloc (.cells #[ptr b] 37)) w' ∧ Two w' b 67 (str []) (.int .i64 0)) (by rintro e w' ⟨rfl, rfl⟩; exact ⟨rfl, But.refl _ _, K1.out⟩)
      have H := Lib.hid (readEnd_ok b #[ptr w.heap.size] 0 [] _ _ K1.out hcl)
      have E1 := Lib.hid e1
      clear e1 hcl k1 k2
      go_enter Try.func32, Try.ntmps32
      go_wp2_with (go_at_call 45; refine H.out.mono ?_; rintro e w' ⟨rfl, hb, h2⟩)
      go_ret
      rw [E1.out]
      exact ⟨rfl, (But.alloc b w _).trans hb, h2⟩
    · have e1 : Rs.fin ⟨l, 0⟩ = (4, ⟨[], 4⟩) := by simp [Rs.fin, hl]
      have hcl := (end49_err w.heap.size b l (w.alloc (.cells #[ptr b] 37)) hl k2 k1.c0).mono (R' := fun e w' => e = .returned (.tuple #[.int .i64 0, .int .i64 (4 : Nat)]) ∧ But b (w.alloc (.cells #[ptr b] 37)) w' ∧ ∃ y, Two w' b 67 y (.int .i64 0)) (by rintro e w' ⟨rfl, rfl⟩; exact ⟨rfl, But.refl _ _, _, K1.out⟩)
      have H := Lib.hid (readEnd_err b 4 #[ptr w.heap.size] 0 _ _ (by decide) K1.out hcl)
      have E1 := Lib.hid e1
      clear e1 hcl k1 k2 hl
      go_enter Try.func32, Try.ntmps32
      go_wp2_with (go_at_call 45; refine H.out.mono ?_; rintro e w' ⟨rfl, hb, h2⟩)
      go_ret
      rw [E1.out]
      exact ⟨rfl, (But.alloc b w _).trans hb, h2⟩
  · have e1 : Rs.fin ⟨l, c⟩ = (c, ⟨l, c⟩) := by simp [Rs.fin, hc]
    have H := Lib.hid (readEnd_bad b c #[ptr w.heap.size] _ (w.alloc (.cells #[ptr b] 37)) hc K1.out)
    have E1 := Lib.hid e1
    clear e1 k1 k2
    go_enter Try.func32, Try.ntmps32
    go_wp2_with (go_at_call 45; refine H.out.mono ?_; rintro e w' ⟨rfl, n, rfl⟩)
    go_ret
    rw [E1.out]
    exact ⟨rfl, (But.alloc b w _).trans (But.drewN _ _ _), K1.out.drewN _⟩

theorem and1_u64 (n : Nat) (h : n ≤ 18446744073709551615) : bits BinOp.and IntKind.u64 (n : Int) 1 = ((n % 2 : Nat) : Int) := by
  have e := u64_and_nat n 1 (by omega) (by decide)
  have e2 : ((1 : Nat) : Int) = 1 := rfl
  rw [e2] at e
  rw [e, Nat.and_one_is_mod]
theorem xor_comm64 (a b : Int) : bits BinOp.xor IntKind.i64 a b = bits BinOp.xor IntKind.i64 b a := by simp only [bits, BitVec.xor_comm]
theorem xor0_i64 (a : Nat) (h : a < 9223372036854775808) : bits BinOp.xor IntKind.i64 (a : Int) 0 = a := by
  show IntKind.i64.wrap ((BitVec.ofInt 64 (a : Int) ^^^ BitVec.ofInt 64 0).toNat : Int) = _
  rw [BitVec.toNat_xor, ofInt_u64 a (by omega)]
  show IntKind.i64.wrap ((a ^^^ 0 : Nat) : Int) = _
  rw [Nat.xor_zero, IntKind.wrap_i64]
  omega
theorem int39_err (B b : Nat) (l : List UInt8) (c : Nat) (w : World) (hs : l.length ≤ 1000000) (hB : w.cell? ⟨B, 0, none⟩ = some (ptr b)) (hc : w.cell? ⟨b, 0, none⟩ = some (str l)) (hf : w.frozen? ⟨b, 0, none⟩ = false) (h : scan 18446744073709551615 0 0 l = .error c) :
    Calls Try.prog 39 #[ptr B] w fun e w' => e = .returned (.tuple #[.int .i64 0, .int .i64 c]) ∧ w = w' := by
  have HH := Lib.hid h
  clear h
  have q1 : bits BinOp.and IntKind.u64 0 1 = 0 := and1_u64 0 (by omega)
  have q2 : bits BinOp.xor IntKind.i64 0 0 = 0 := xor0_i64 0 (by omega)
  go_enter Try.func39, Try.ntmps39
  go_wp2_with (go_at_call 40; refine (take_err b l 18446744073709551615 c w hs hc hf HH.out).mono ?_; rintro e w' ⟨rfl, rfl⟩)
  go_ret2
  exact ⟨rfl, rfl⟩
theorem int39_ok (B b : Nat) (l : List UInt8) (n : Nat) (l' : List UInt8) (w : World) (hs : l.length ≤ 1000000) (hB : w.cell? ⟨B, 0, none⟩ = some (ptr b)) (hc : w.cell? ⟨b, 0, none⟩ = some (str l)) (hf : w.frozen? ⟨b, 0, none⟩ = false) (h : scan 18446744073709551615 0 0 l = .ok (n, l')) (hn : n ≤ 18446744073709551615) :
    Calls Try.prog 39 #[ptr B] w fun e w' => e = .returned (.tuple #[.int .i64 (zag n), .int .i64 0]) ∧ w' = w.setCell ⟨b, 0, none⟩ (str l') := by
  have HH := Lib.hid h
  clear h
  have hp := and1_u64 n hn
  rcases Nat.mod_two_eq_zero_or_one n with h2 | h2
  · have q1 : bits BinOp.and IntKind.u64 (n : Int) 1 = 0 := by rw [hp, h2]; rfl
    have q3 : (n : Int) / 2 = ((n / 2 : Nat) : Int) := by omega
    have q2 : bits BinOp.xor IntKind.i64 ((n / 2 : Nat) : Int) 0 = ((n / 2 : Nat) : Int) := xor0_i64 (n / 2) (by omega)
    have q2' : bits BinOp.xor IntKind.i64 ((n : Int) / 2) 0 = (n : Int) / 2 := by rw [q3]; exact q2
    have HZ : zag n = (n : Int) / 2 := by unfold zag; rw [if_pos h2]; omega
    have HZ := Lib.hid HZ
    clear hp h2 q2 q3
    go_enter Try.func39, Try.ntmps39
    go_wp2_with (go_at_call 40; refine (take_ok b l 18446744073709551615 n l' w hs hc hf HH.out).mono ?_; rintro e w' ⟨rfl, rfl⟩)
    go_ret2
    rw [HZ.out]
    exact ⟨rfl, rfl⟩
  · have q1 : bits BinOp.and IntKind.u64 (n : Int) 1 = 1 := by rw [hp, h2]; rfl
    have q3 : (n : Int) / 2 = ((n / 2 : Nat) : Int) := by omega
    have q2' : bits BinOp.xor IntKind.i64 ((n : Int) / 2) (-1) = -1 - (n : Int) / 2 := by rw [q3, xor_comm64]; exact i64_not (n / 2) (by omega)
    have HZ : zag n = -1 - (n : Int) / 2 := by unfold zag; rw [if_neg (by omega)]; omega
    have HZ := Lib.hid HZ
    clear hp h2 q3
    go_enter Try.func39, Try.ntmps39
    go_wp2_with (go_at_call 40; refine (take_ok b l 18446744073709551615 n l' w hs hc hf HH.out).mono ?_; rintro e w' ⟨rfl, rfl⟩)
    go_ret2
    rw [HZ.out]
    exact ⟨rfl, rfl⟩

set_option maxHeartbeats 1000000 in
theorem intW_any (b : Nat) (r : Rs) (w : World) (hr : RdW w b r) (hl : r.l.length ≤ 1000000) :
    Calls Try.prog 22 #[ptr b] w fun e w' => e = .returned (.tuple #[.int .i64 r.int.1.1, .int .i64 r.int.1.2]) ∧ But b w w' ∧ RdW w' b r.int.2 := by
  obtain ⟨l, c⟩ := r
  have hr' : Two w b 67 (str l) (.int .i64 c) := hr
  clear hr
  obtain ⟨k1, k2⟩ := box_facts (t' := 37) (u := ptr b) hr'
  have K1 := Lib.hid k1
  by_cases hc : c = 0
  · subst hc
    cases hs : scan 18446744073709551615 0 0 l with
    | error c =>
      have hc0 : c ≠ 0 := by have := scan_err _ _ _ _ _ hs; omega
      have e1 : (Rs.mk l 0).int = ((0, c), ⟨[], c⟩) := by simp [Rs.int, Rs.num, hs, hc0]
      have hcl := (int39_err w.heap.size b l c (w.alloc (.cells #[ptr b] 37)) hl k2 k1.c0 (k1.fz 0) hs).mono (R' := fun e w' => e = .returned (.tuple #[.int .i64 0, .int .i64 c]) ∧ But b (w.alloc (.cells #[ptr b] 37)) w' ∧ ∃ y, Two w' b 67 y (.int .i64 0)) (by rintro e w' ⟨rfl, rfl⟩; exact ⟨rfl, But.refl _ _, _, K1.out⟩)
      have H := Lib.hid (readInt_err b c #[ptr w.heap.size] 0 _ _ hc0 K1.out hcl)
      have E1 := Lib.hid e1
      clear e1 hcl hs k1 k2 hl hc0
      go_enter Try.func22, Try.ntmps22
      go_wp2_with (go_at_call 38; refine H.out.mono ?_; rintro e w' ⟨rfl, hb, h2⟩)
      go_ret2
      rw [E1.out]
      exact ⟨rfl, (But.alloc b w _).trans hb, h2⟩
    | ok p =>
      obtain ⟨n, l'⟩ := p
      have e1 : (Rs.mk l 0).int = ((zag n, 0), ⟨l', 0⟩) := by simp [Rs.int, Rs.num, hs]
      have hcl := (int39_ok w.heap.size b l n l' (w.alloc (.cells #[ptr b] 37)) hl k2 k1.c0 (k1.fz 0) hs (scan_le _ _ _ _ _ _ hs).1).mono (R' := fun e w' => e = .returned (.tuple #[.int .i64 (zag n), .int .i64 0]) ∧ But b (w.alloc (.cells #[ptr b] 37)) w' ∧ Two w' b 67 (str l') (.int .i64 0)) (by rintro e w' ⟨rfl, rfl⟩; exact ⟨rfl, But.setCell _ _ _ _, K1.out.set0 _⟩)
      have H := Lib.hid (readInt_ok b #[ptr w.heap.size] (zag n) l' _ _ K1.out hcl)
      have E1 := Lib.hid e1
      clear e1 hcl hs k1 k2 hl
      go_enter Try.func22, Try.ntmps22
      go_wp2_with (go_at_call 38; refine H.out.mono ?_; rintro e w' ⟨rfl, hb, h2⟩)
      go_ret2
      rw [E1.out]
      exact ⟨rfl, (But.alloc b w _).trans hb, h2⟩
  · have e1 : (Rs.mk l c).int = ((0, c), ⟨l, c⟩) := by simp [Rs.int, Rs.num, hc]
    have H := Lib.hid (readInt_bad b c #[ptr w.heap.size] _ (w.alloc (.cells #[ptr b] 37)) hc K1.out)
    have E1 := Lib.hid e1
    clear e1 k1 k2 hl
    go_enter Try.func22, Try.ntmps22
    go_wp2_with (go_at_call 38; refine H.out.mono ?_; rintro e w' ⟨rfl, n, rfl⟩)
    go_ret2
    rw [E1.out]
    exact ⟨rfl, (But.alloc b w _).trans (But.drewN _ _ _), K1.out.drewN _⟩
end Go.Proofs.Ytlflkmigfggdjaa
