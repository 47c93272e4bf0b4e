/- What wire.Num, wire.Int, wire.Text and the document's answers return. Conditions: the bytes are not too many. -/
import Derived.Test.YtlflkmigfggdjaaWirePut
namespace Go.Proofs.Ytlflkmigfggdjaa
open Go.RowKit Go.Ow Go.Wi

theorem num_no (s : ByteArray) (n : Int) (w : World) (h : n < 0 ∨ 1099511627776 < n) :
    Calls Try.prog 11 #[.string s, .int .i64 n] w fun e w' => e = .returned (.tuple #[.string s, .int .i64 1]) ∧ w = w' := by
  rcases h with h | h
  · go_enter Try.func11, Try.ntmps11
    go_wp2
    go_ret2
    exact ⟨rfl, rfl⟩
  · have h' : ¬ n < 0 := by omega
    go_enter Try.func11, Try.ntmps11
    go_wp2
    go_ret2
    exact ⟨rfl, rfl⟩

theorem num_yes (s : ByteArray) (n : Nat) (w : World) (hs : s.size ≤ 1000000) (h : n ≤ 1099511627776) :
    Calls Try.prog 11 #[.string s, .int .i64 n] w fun e w' => e = .returned (.tuple #[.string (cat s (enc n)), .int .i64 0]) ∧ Below w.heap.size w w' := by
  have h1 : ¬ (1099511627776 < (n : Int)) := by omega
  go_enter Try.func11, Try.ntmps11
  go_wp2_with (go_at_call 34; refine (put_any _ _ _ (by omega) (by omega)).mono ?_; rintro e w' ⟨rfl, hb⟩)
  go_ret2
  exact ⟨rfl, hb⟩

theorem rnum_no (s : ByteArray) (n : Int) (w : World) (h : n < 0 ∨ 1099511627776 < n) :
    Calls Try.prog 12 #[.string s, .int .i64 n] w fun e w' => e = .returned (.tuple #[.string s, .int .i64 1]) ∧ w = w' := by
  rcases h with h | h
  · go_enter Try.func12, Try.ntmps12
    go_wp2
    go_ret2
    exact ⟨rfl, rfl⟩
  · have h' : ¬ n < 0 := by omega
    go_enter Try.func12, Try.ntmps12
    go_wp2
    go_ret2
    exact ⟨rfl, rfl⟩

theorem rnum_yes (s : ByteArray) (n : Nat) (w : World) (hs : s.size ≤ 1000000) (h : n ≤ 1099511627776) :
    Calls Try.prog 12 #[.string s, .int .i64 n] w fun e w' => e = .returned (.tuple #[.string (cat s (enc n)), .int .i64 0]) ∧ Below w.heap.size w w' := by
  have h1 : ¬ (1099511627776 < (n : Int)) := by omega
  go_enter Try.func12, Try.ntmps12
  go_wp2_with (go_at_call 35; refine (bytes_any _ _ _ (by omega) (by omega)).mono ?_; rintro e w' ⟨rfl, hb⟩)
  go_ret2
  exact ⟨rfl, hb⟩

theorem text_any (s t : ByteArray) (w : World) (hs : s.size ≤ 900000) (ht : t.size ≤ 90000) :
    Calls Try.prog 17 #[.string s, .string t] w fun e w' => e = .returned (.string (cat s (enc t.size ++ t.data.toList))) ∧ Below w.heap.size w w' := by
  have hc : (cat s (enc t.size)).size ≤ 900010 := by rw [cat_size]; have := enc_len64 t.size (by omega); omega
  go_enter Try.func17, Try.ntmps17
  go_wp2_with (go_at_call 34; refine (put_any _ _ _ (by omega) (by omega)).mono ?_; rintro e w' ⟨rfl, hb⟩)
  go_ret
  exact ⟨ret_str (by rw [append_cat, cat_cat]), hb⟩

theorem rtext_any (s t : ByteArray) (w : World) (hs : s.size ≤ 900000) (ht : t.size ≤ 90000) :
    Calls Try.prog 18 #[.string s, .string t] w fun e w' => e = .returned (.string (cat s (enc t.size ++ t.data.toList))) ∧ Below w.heap.size w w' := by
  have hc : (cat s (enc t.size)).size ≤ 900010 := by rw [cat_size]; have := enc_len64 t.size (by omega); omega
  go_enter Try.func18, Try.ntmps18
  go_wp2_with (go_at_call 35; refine (bytes_any _ _ _ (by omega) (by omega)).mono ?_; rintro e w' ⟨rfl, hb⟩)
  go_ret
  exact ⟨ret_str (by rw [append_cat, cat_cat]), hb⟩

theorem put_at (s : ByteArray) (m : Int) (n : Nat) (w : World) (hs : s.size ≤ 1000000) (hm : m = n) (hn : n < 18446744073709551616) :
    Calls Try.prog 34 #[.string s, .int .u64 m] w fun e w' => e = .returned (.string (cat s (enc n))) ∧ Below w.heap.size w w' := by
  subst hm; exact put_any s n w hs hn
theorem bytes_at (s : ByteArray) (m : Int) (n : Nat) (w : World) (hs : s.size ≤ 1000000) (hm : m = n) (hn : n < 18446744073709551616) :
    Calls Try.prog 35 #[.string s, .int .u64 m] w fun e w' => e = .returned (.string (cat s (enc n))) ∧ Below w.heap.size w w' := by
  subst hm; exact bytes_any s n w hs hn

theorem xor_ones (a : Nat) (h : a < 18446744073709551616) : a ^^^ 18446744073709551615 = 18446744073709551615 - a := by
  have e := congrArg BitVec.toNat (BitVec.xor_allOnes (x := BitVec.ofNat 64 a))
  rw [BitVec.toNat_xor, BitVec.toNat_not] at e
  simp only [BitVec.toNat_ofNat, BitVec.toNat_allOnes] at e
  rw [Nat.mod_eq_of_lt (by omega)] at e
  exact e

theorem zig_pos (n : Nat) (h : n ≤ 9223372036854775807) : bits BinOp.xor IntKind.u64 (↑n * 2) (↑n / 9223372036854775808) = (zig n : Int) := by
  have e : (n : Int) / 9223372036854775808 = 0 := by omega
  rw [e, u64_xor _ _ (by omega) (by omega) (by omega) (by omega)]
  simp [zig]
  omega
theorem zig_neg (x : Int) (h0 : ¬ 0 ≤ x) (h : -9223372036854775808 ≤ x) : bits BinOp.xor IntKind.u64 (IntKind.u64.wrap (IntKind.u64.wrap x * 2)) (IntKind.u64.wrap (x / 9223372036854775808)) = (zig x : Int) := by
  have e1 : x / 9223372036854775808 = -1 := by omega
  have e2 : IntKind.u64.wrap (IntKind.u64.wrap x * 2) = ((2 * x + 18446744073709551616).toNat : Int) := by rw [IntKind.wrap_u64, IntKind.wrap_u64]; omega
  have e3 : IntKind.u64.wrap (-1) = ((18446744073709551615 : Nat) : Int) := by rw [IntKind.wrap_u64]; omega
  rw [e1, e2, e3, u64_xor_nat _ _ (by omega) (by omega), xor_ones _ (by omega)]
  unfold zig
  rw [if_neg h0]
  omega

theorem int_any (s : ByteArray) (x : Int) (w : World) (hs : s.size ≤ 1000000) (h1 : -9223372036854775808 ≤ x) (h2 : x ≤ 9223372036854775807) :
    Calls Try.prog 15 #[.string s, .int .i64 x] w fun e w' => e = .returned (.string (cat s (enc (zig x)))) ∧ Below w.heap.size w w' := by
  by_cases h0 : 0 ≤ x
  · obtain ⟨n, rfl⟩ := Int.eq_ofNat_of_zero_le h0
    have HZ := Lib.hid (zig_pos n (by omega))
    go_enter Try.func15, Try.ntmps15
    go_wp2_with (go_at_call 34; refine (put_at _ _ _ _ (by omega) HZ.out (zig_lt _ (by omega) (by omega))).mono ?_; rintro e w' ⟨rfl, hb⟩)
    go_ret
    exact ⟨rfl, hb⟩
  · have HZ := Lib.hid (zig_neg x h0 (by omega))
    go_enter Try.func15, Try.ntmps15
    go_wp2_with (go_at_call 34; refine (put_at _ _ _ _ (by omega) HZ.out (zig_lt _ (by omega) (by omega))).mono ?_; rintro e w' ⟨rfl, hb⟩)
    go_ret
    exact ⟨rfl, hb⟩

theorem rint_any (s : ByteArray) (x : Int) (w : World) (hs : s.size ≤ 1000000) (h1 : -9223372036854775808 ≤ x) (h2 : x ≤ 9223372036854775807) :
    Calls Try.prog 16 #[.string s, .int .i64 x] w fun e w' => e = .returned (.string (cat s (enc (zig x)))) ∧ Below w.heap.size w w' := by
  by_cases h0 : 0 ≤ x
  · have HZ : ((2 * x : Int) = zig x) := by unfold zig; rw [if_pos h0]; omega
    have HZ := Lib.hid HZ
    go_enter Try.func16, Try.ntmps16
    go_wp2_with (go_at_call 35; refine (bytes_at _ _ (zig x) _ (by omega) (by have := HZ.out; omega) (zig_lt _ (by omega) (by omega))).mono ?_; rintro e w' ⟨rfl, hb⟩)
    go_ret
    exact ⟨rfl, hb⟩
  · have HZ : ((2 * -(x + 1) + 1 : Int) = zig x) := by unfold zig; rw [if_neg h0]; omega
    have HZ := Lib.hid HZ
    go_enter Try.func16, Try.ntmps16
    go_wp2_with (go_at_call 35; refine (bytes_at _ _ (zig x) _ (by omega) (by have := HZ.out; omega) (zig_lt _ (by omega) (by omega))).mono ?_; rintro e w' ⟨rfl, hb⟩)
    go_ret
    exact ⟨rfl, hb⟩
end Go.Proofs.Ytlflkmigfggdjaa
