/- Layer 2's bytes, in plain Lean: a number in groups of seven bits, and bytes behind bytes. Conditions: none. -/
namespace Go.Wi

/-- bytes behind bytes -/
def cat (s : ByteArray) (l : List UInt8) : ByteArray := ⟨s.data ++ l.toArray⟩
theorem cat_cat (s : ByteArray) (a b : List UInt8) : cat (cat s a) b = cat s (a ++ b) := by simp [cat, Array.append_assoc]
theorem cat_nil (s : ByteArray) : cat s [] = s := by simp [cat]
theorem cat_list (s : ByteArray) (l : List UInt8) : (cat s l).data.toList = s.data.toList ++ l := by simp [cat]
theorem cat_size (s : ByteArray) (l : List UInt8) : (cat s l).size = s.size + l.length := by
  show (s.data ++ l.toArray).size = _
  simp
theorem mk_cat (s : ByteArray) (l : List UInt8) : (⟨(s.data.toList ++ l).toArray⟩ : ByteArray) = cat s l := by simp [cat]
theorem append_cat (s t : ByteArray) : s ++ t = cat s t.data.toList := by
  apply ByteArray.ext
  simp [cat]

/-- a number's bytes -/
def enc (n : Nat) : List UInt8 := if n < 128 then [UInt8.ofNat n] else UInt8.ofNat (n % 128 + 128) :: enc (n / 128)
termination_by n
decreasing_by omega

theorem enc_small {n : Nat} (h : n < 128) : enc n = [UInt8.ofNat n] := by rw [enc, if_pos h]
theorem enc_more {n : Nat} (h : 128 ≤ n) : enc n = UInt8.ofNat (n % 128 + 128) :: enc (n / 128) := by rw [enc, if_neg (by omega)]

theorem enc_len (k n : Nat) (h : n < 128 ^ (k + 1)) : (enc n).length ≤ k + 1 := by
  induction k generalizing n with
  | zero => rw [enc_small (by simpa using h)]; simp
  | succ k ih =>
    by_cases hn : n < 128
    · rw [enc_small hn]; simp
    · rw [enc_more (by omega)]
      have : n / 128 < 128 ^ (k + 1) := by
        rw [Nat.div_lt_iff_lt_mul (by decide), ← Nat.pow_succ]; exact h
      have := ih _ this
      simp; omega
theorem enc_len64 (n : Nat) (h : n < 18446744073709551616) : (enc n).length ≤ 10 := enc_len 9 n (Nat.lt_of_lt_of_le h (by decide))
theorem enc_pos (n : Nat) : 1 ≤ (enc n).length := by
  by_cases h : n < 128
  · simp [enc_small h]
  · rw [enc_more (by omega)]; simp

/-- a whole number as a number -/
def zig (x : Int) : Nat := if 0 ≤ x then (2 * x).toNat else (-2 * x - 1).toNat
theorem zig_lt (x : Int) (h1 : -9223372036854775808 ≤ x) (h2 : x ≤ 9223372036854775807) : zig x < 18446744073709551616 := by unfold zig; split <;> omega
theorem zig_inj {x y : Int} (h : zig x = zig y) : x = y := by unfold zig at h; split at h <;> split at h <;> omega

/-- may a value be told -/
def may (k : Nat) (n : Int) (t : ByteArray) : Bool :=
  decide ((k = 0 ∧ n = 0 ∧ t.size = 0) ∨ (k = 1 ∧ t.size = 0) ∨ (k = 2 ∧ (n = 0 ∨ n = 1) ∧ t.size = 0) ∨ (k = 3 ∧ n = 0 ∧ t.size ≤ 40))
/-- a value's bytes -/
def encV (k : Nat) (n : Int) (t : ByteArray) : List UInt8 :=
  enc k ++ if k = 1 then enc (zig n) else if k = 2 then enc n.toNat else if k = 3 then enc t.size ++ t.data.toList else []
end Go.Wi
