/- What wire's read[..] returns, by what its closure returns. Conditions: none. -/
import Derived.Test.YtlflkmigfggdjaaWireNum
namespace Go.Proofs.Ytlflkmigfggdjaa
open Go.RowKit Go.Ow Go.Wi


set_option maxHeartbeats 1000000 in
theorem readNum_bad (b c : Nat) (caps : Array Value) (x : Value) (w : World) (hc : c ≠ 0) (h : Two w b 67 x (.int .i64 c)) :
    Calls Try.prog 45 #[ptr b, .func (Fn.func 46) #[] caps] w fun e w' => e = .returned (.tuple #[.int .i64 0, .int .i64 c]) ∧ ∃ n, w' = w.drewN n := by
  have h1 := h.c1
  clear h
  have hc' : ((c : Int) == 0) = false := by rw [beq_eq_false_iff_ne]; omega
  have hc'' : ((c : Int) != 0) = true := by rw [bne_iff_ne]; omega
  go_enter Try.func45, Try.ntmps45
  go_wp2
  go_quiet (fail)
  go_wp2
  go_ret2
  exact ⟨rfl, _, rfl⟩
set_option maxHeartbeats 1000000 in
theorem readNum_err (b c : Nat) (caps : Array Value) (v : Int) (x : Value) (w : World) (hc : c ≠ 0) (h : Two w b 67 x (.int .i64 0))
    (hcl : Calls Try.prog 46 caps w fun e w' => e = .returned (.tuple #[.int .i64 v, .int .i64 c]) ∧ But b w w' ∧ ∃ y, Two w' b 67 y (.int .i64 0)) :
    Calls Try.prog 45 #[ptr b, .func (Fn.func 46) #[] caps] w fun e w' => e = .returned (.tuple #[.int .i64 0, .int .i64 c]) ∧ But b w w' ∧ Two w' b 67 (str []) (.int .i64 c) := by
  have h1 := h.c1
  clear h
  have HC := Lib.hid hc
  have hc' : ((c : Int) == 0) = false := by rw [beq_eq_false_iff_ne]; omega
  have hc'' : ((c : Int) != 0) = true := by rw [bne_iff_ne]; omega
  clear hc
  go_enter Try.func45, Try.ntmps45
  go_wp2_with (go_at_call 46; refine hcl.mono ?_; rintro e w1 ⟨rfl, hb, y, h2⟩; have k0 := h2.c0; have k1 := h2.c1; have f0 := h2.fz 0; have f1 := h2.fz 1)
  go_ret2
  exact ⟨rfl, (hb.trans (But.setCell b _ 0 _)).trans (But.setCell b _ 1 _), (h2.set0 _).set1 _⟩
set_option maxHeartbeats 1000000 in
theorem readNum_ok (b : Nat) (caps : Array Value) (v : Int) (l : List UInt8) (x : Value) (w : World) (h : Two w b 67 x (.int .i64 0))
    (hcl : Calls Try.prog 46 caps w fun e w' => e = .returned (.tuple #[.int .i64 v, .int .i64 0]) ∧ But b w w' ∧ Two w' b 67 (str l) (.int .i64 0)) :
    Calls Try.prog 45 #[ptr b, .func (Fn.func 46) #[] caps] w fun e w' => e = .returned (.tuple #[.int .i64 v, .int .i64 0]) ∧ But b w w' ∧ Two w' b 67 (str l) (.int .i64 0) := by
  have h1 := h.c1
  clear h
  go_enter Try.func45, Try.ntmps45
  go_wp2_with (go_at_call 46; refine hcl.mono ?_; rintro e w1 ⟨rfl, hb, h2⟩)
  go_ret2
  exact ⟨rfl, hb, h2⟩


set_option maxHeartbeats 1000000 in
theorem readEnd_bad (b c : Nat) (caps : Array Value) (x : Value) (w : World) (hc : c ≠ 0) (h : Two w b 67 x (.int .i64 c)) :
    Calls Try.prog 45 #[ptr b, .func (Fn.func 49) #[] caps] w fun e w' => e = .returned (.tuple #[.int .i64 0, .int .i64 c]) ∧ ∃ n, w' = w.drewN n := by
  have h1 := h.c1
  clear h
  have hc' : ((c : Int) == 0) = false := by rw [beq_eq_false_iff_ne]; omega
  have hc'' : ((c : Int) != 0) = true := by rw [bne_iff_ne]; omega
  go_enter Try.func45, Try.ntmps45
  go_wp2
  go_quiet (fail)
  go_wp2
  go_ret2
  exact ⟨rfl, _, rfl⟩
set_option maxHeartbeats 1000000 in
theorem readEnd_err (b c : Nat) (caps : Array Value) (v : Int) (x : Value) (w : World) (hc : c ≠ 0) (h : Two w b 67 x (.int .i64 0))
    (hcl : Calls Try.prog 49 caps w fun e w' => e = .returned (.tuple #[.int .i64 v, .int .i64 c]) ∧ But b w w' ∧ ∃ y, Two w' b 67 y (.int .i64 0)) :
    Calls Try.prog 45 #[ptr b, .func (Fn.func 49) #[] caps] w fun e w' => e = .returned (.tuple #[.int .i64 0, .int .i64 c]) ∧ But b w w' ∧ Two w' b 67 (str []) (.int .i64 c) := by
  have h1 := h.c1
  clear h
  have HC := Lib.hid hc
  have hc' : ((c : Int) == 0) = false := by rw [beq_eq_false_iff_ne]; omega
  have hc'' : ((c : Int) != 0) = true := by rw [bne_iff_ne]; omega
  clear hc
  go_enter Try.func45, Try.ntmps45
  go_wp2_with (go_at_call 49; refine hcl.mono ?_; rintro e w1 ⟨rfl, hb, y, h2⟩; have k0 := h2.c0; have k1 := h2.c1; have f0 := h2.fz 0; have f1 := h2.fz 1)
  go_ret2
  exact ⟨rfl, (hb.trans (But.setCell b _ 0 _)).trans (But.setCell b _ 1 _), (h2.set0 _).set1 _⟩
set_option maxHeartbeats 1000000 in
theorem readEnd_ok (b : Nat) (caps : Array Value) (v : Int) (l : List UInt8) (x : Value) (w : World) (h : Two w b 67 x (.int .i64 0))
    (hcl : Calls Try.prog 49 caps w fun e w' => e = .returned (.tuple #[.int .i64 v, .int .i64 0]) ∧ But b w w' ∧ Two w' b 67 (str l) (.int .i64 0)) :
    Calls Try.prog 45 #[ptr b, .func (Fn.func 49) #[] caps] w fun e w' => e = .returned (.tuple #[.int .i64 v, .int .i64 0]) ∧ But b w w' ∧ Two w' b 67 (str l) (.int .i64 0) := by
  have h1 := h.c1
  clear h
  go_enter Try.func45, Try.ntmps45
  go_wp2_with (go_at_call 49; refine hcl.mono ?_; rintro e w1 ⟨rfl, hb, h2⟩)
  go_ret2
  exact ⟨rfl, hb, h2⟩


set_option maxHeartbeats 1000000 in
theorem readInt_bad (b c : Nat) (caps : Array Value) (x : Value) (w : World) (hc : c ≠ 0) (h : Two w b 67 x (.int .i64 c)) :
    Calls Try.prog 38 #[ptr b, .func (Fn.func 39) #[] caps] w fun e w' => e = .returned (.tuple #[.int .i64 0, .int .i64 c]) ∧ ∃ n, w' = w.drewN n := by
  have h1 := h.c1
  clear h
  have hc' : ((c : Int) == 0) = false := by rw [beq_eq_false_iff_ne]; omega
  have hc'' : ((c : Int) != 0) = true := by rw [bne_iff_ne]; omega
  go_enter Try.func38, Try.ntmps38
  go_wp2
  go_quiet (fail)
  go_wp2
  go_ret2
  exact ⟨rfl, _, rfl⟩
set_option maxHeartbeats 1000000 in
theorem readInt_err (b c : Nat) (caps : Array Value) (v : Int) (x : Value) (w : World) (hc : c ≠ 0) (h : Two w b 67 x (.int .i64 0))
    (hcl : Calls Try.prog 39 caps w fun e w' => e = .returned (.tuple #[.int .i64 v, .int .i64 c]) ∧ But b w w' ∧ ∃ y, Two w' b 67 y (.int .i64 0)) :
    Calls Try.prog 38 #[ptr b, .func (Fn.func 39) #[] caps] w fun e w' => e = .returned (.tuple #[.int .i64 0, .int .i64 c]) ∧ But b w w' ∧ Two w' b 67 (str []) (.int .i64 c) := by
  have h1 := h.c1
  clear h
  have HC := Lib.hid hc
  have hc' : ((c : Int) == 0) = false := by rw [beq_eq_false_iff_ne]; omega
  have hc'' : ((c : Int) != 0) = true := by rw [bne_iff_ne]; omega
  clear hc
  go_enter Try.func38, Try.ntmps38
  go_wp2_with (go_at_call 39; refine hcl.mono ?_; rintro e w1 ⟨rfl, hb, y, h2⟩; have k0 := h2.c0; have k1 := h2.c1; have f0 := h2.fz 0; have f1 := h2.fz 1)
  go_ret2
  exact ⟨rfl, (hb.trans (But.setCell b _ 0 _)).trans (But.setCell b _ 1 _), (h2.set0 _).set1 _⟩
set_option maxHeartbeats 1000000 in
theorem readInt_ok (b : Nat) (caps : Array Value) (v : Int) (l : List UInt8) (x : Value) (w : World) (h : Two w b 67 x (.int .i64 0))
    (hcl : Calls Try.prog 39 caps w fun e w' => e = .returned (.tuple #[.int .i64 v, .int .i64 0]) ∧ But b w w' ∧ Two w' b 67 (str l) (.int .i64 0)) :
    Calls Try.prog 38 #[ptr b, .func (Fn.func 39) #[] caps] w fun e w' => e = .returned (.tuple #[.int .i64 v, .int .i64 0]) ∧ But b w w' ∧ Two w' b 67 (str l) (.int .i64 0) := by
  have h1 := h.c1
  clear h
  go_enter Try.func38, Try.ntmps38
  go_wp2_with (go_at_call 39; refine hcl.mono ?_; rintro e w1 ⟨rfl, hb, h2⟩)
  go_ret2
  exact ⟨rfl, hb, h2⟩


set_option maxHeartbeats 1000000 in
theorem readText_bad (b c : Nat) (caps : Array Value) (x : Value) (w : World) (hc : c ≠ 0) (h : Two w b 67 x (.int .i64 c)) :
    Calls Try.prog 41 #[ptr b, .func (Fn.func 42) #[] caps] w fun e w' => e = .returned (.tuple #[str [], .int .i64 c]) ∧ ∃ n, w' = w.drewN n := by
  have h1 := h.c1
  clear h
  have hc' : ((c : Int) == 0) = false := by rw [beq_eq_false_iff_ne]; omega
  have hc'' : ((c : Int) != 0) = true := by rw [bne_iff_ne]; omega
  go_enter Try.func41, Try.ntmps41
  go_wp2
  go_quiet (fail)
  go_wp2
  go_ret2
  exact ⟨rfl, _, rfl⟩
set_option maxHeartbeats 1000000 in
theorem readText_err (b c : Nat) (caps : Array Value) (v : ByteArray) (x : Value) (w : World) (hc : c ≠ 0) (h : Two w b 67 x (.int .i64 0))
    (hcl : Calls Try.prog 42 caps w fun e w' => e = .returned (.tuple #[.string v, .int .i64 c]) ∧ But b w w' ∧ ∃ y, Two w' b 67 y (.int .i64 0)) :
    Calls Try.prog 41 #[ptr b, .func (Fn.func 42) #[] caps] w fun e w' => e = .returned (.tuple #[str [], .int .i64 c]) ∧ But b w w' ∧ Two w' b 67 (str []) (.int .i64 c) := by
  have h1 := h.c1
  clear h
  have HC := Lib.hid hc
  have hc' : ((c : Int) == 0) = false := by rw [beq_eq_false_iff_ne]; omega
  have hc'' : ((c : Int) != 0) = true := by rw [bne_iff_ne]; omega
  clear hc
  go_enter Try.func41, Try.ntmps41
  go_wp2_with (go_at_call 42; refine hcl.mono ?_; rintro e w1 ⟨rfl, hb, y, h2⟩; have k0 := h2.c0; have k1 := h2.c1; have f0 := h2.fz 0; have f1 := h2.fz 1)
  go_ret2
  exact ⟨rfl, (hb.trans (But.setCell b _ 0 _)).trans (But.setCell b _ 1 _), (h2.set0 _).set1 _⟩
set_option maxHeartbeats 1000000 in
theorem readText_ok (b : Nat) (caps : Array Value) (v : ByteArray) (l : List UInt8) (x : Value) (w : World) (h : Two w b 67 x (.int .i64 0))
    (hcl : Calls Try.prog 42 caps w fun e w' => e = .returned (.tuple #[.string v, .int .i64 0]) ∧ But b w w' ∧ Two w' b 67 (str l) (.int .i64 0)) :
    Calls Try.prog 41 #[ptr b, .func (Fn.func 42) #[] caps] w fun e w' => e = .returned (.tuple #[.string v, .int .i64 0]) ∧ But b w w' ∧ Two w' b 67 (str l) (.int .i64 0) := by
  have h1 := h.c1
  clear h
  go_enter Try.func41, Try.ntmps41
  go_wp2_with (go_at_call 42; refine hcl.mono ?_; rintro e w1 ⟨rfl, hb, h2⟩)
  go_ret2
  exact ⟨rfl, hb, h2⟩

end Go.Proofs.Ytlflkmigfggdjaa
