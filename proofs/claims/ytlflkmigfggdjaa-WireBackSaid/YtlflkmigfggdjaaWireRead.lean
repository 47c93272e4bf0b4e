/- Reading layer 2's bytes, in plain Lean: a number byte by byte; what a reader does. Conditions: none. -/
import Derived.Test.YtlflkmigfggdjaaWireMath2
namespace Go.Wi

/-- a number, read byte by byte: at place i, with n so far; an error, or the number and what is left -/
def scan (most : Nat) : Nat → Nat → List UInt8 → Except Nat (Nat × List UInt8)
  | _, _, [] => .error 8
  | i, n, b :: l =>
    if 9 < i ∨ 18446744073709551616 ≤ b.toNat % 128 * 128 ^ i ∨ most < n + b.toNat % 128 * 128 ^ i then .error 4
    else if 128 ≤ b.toNat then scan most (i + 1) (n + b.toNat % 128 * 128 ^ i) l
    else if b.toNat = 0 ∧ 0 < i then .error 4
    else .ok (n + b.toNat % 128 * 128 ^ i, l)

/-- a reader: what is left, and what was wrong -/
structure Rs where
  l : List UInt8
  e : Nat

def Rs.num (most : Nat) (r : Rs) : (Nat × Nat) × Rs :=
  if r.e ≠ 0 then ((0, r.e), r) else match scan most 0 0 r.l with
    | .error c => ((0, c), ⟨[], c⟩)
    | .ok (n, l) => ((n, 0), ⟨l, 0⟩)

/-- the whole number of a number -/
def zag (n : Nat) : Int := if n % 2 = 0 then (n / 2 : Nat) else -((n / 2 : Nat) : Int) - 1
theorem zag_zig (x : Int) : zag (zig x) = x := by unfold zag zig; split <;> split <;> omega
theorem zig_zag (n : Nat) : zig (zag n) = n := by unfold zag zig; split <;> split <;> omega

def Rs.int (r : Rs) : (Int × Nat) × Rs :=
  match r.num 18446744073709551615 with
  | ((n, e), r') => if e ≠ 0 then ((0, e), r') else ((zag n, 0), r')

def Rs.text (most : Int) (r : Rs) : (List UInt8 × Nat) × Rs :=
  match r.num 1099511627776 with
  | ((n, e), r') =>
    if e ≠ 0 then (([], e), r')
    else if most < (n : Int) then (([], 40), ⟨[], 40⟩)
    else if r'.l.length < n then (([], 8), ⟨[], 8⟩)
    else ((r'.l.take n, 0), ⟨r'.l.drop n, 0⟩)

theorem scan_enc (most : Nat) : ∀ (n i m : Nat) (r : List UInt8), m + n * 128 ^ i ≤ most → n * 128 ^ i < 18446744073709551616 → (n = 0 → i = 0) → scan most i m (enc n ++ r) = .ok (m + n * 128 ^ i, r) := by
  intro n
  induction n using Nat.strongRecOn with
  | ind n ih =>
    intro i m r h1 h2 h3
    have hi : i ≤ 9 := by
      rcases Nat.eq_zero_or_pos n with h0 | h0
      · have := h3 h0; omega
      · rcases Nat.lt_or_ge 9 i with hi | hi
        · exfalso
          have : 128 ^ 10 ≤ 128 ^ i := Nat.pow_le_pow_right (by decide) hi
          have h4 : 1 * 128 ^ i ≤ n * 128 ^ i := Nat.mul_le_mul_right _ h0
          have h5 : (18446744073709551616 : Nat) ≤ 128 ^ 10 := by decide
          omega
        · exact hi
    by_cases hn : n < 128
    · rw [enc_small hn]
      simp only [List.cons_append, List.nil_append, scan]
      have e1 : (UInt8.ofNat n).toNat = n := by simp; omega
      rw [e1, Nat.mod_eq_of_lt hn, if_neg (by omega), if_neg (by omega), if_neg (by omega)]
    · rw [enc_more (by omega)]
      simp only [List.cons_append, scan]
      have e1 : (UInt8.ofNat (n % 128 + 128)).toNat = n % 128 + 128 := by simp; omega
      have e2 : (n % 128 + 128) % 128 = n % 128 := by omega
      have e3 : n * 128 ^ i = n / 128 * 128 ^ (i + 1) + n % 128 * 128 ^ i := by
        rw [Nat.pow_succ, Nat.mul_comm (128 ^ i) 128, ← Nat.mul_assoc, ← Nat.add_mul]
        congr 1
        omega
      rw [e1, e2, if_neg (by omega), if_pos (by omega), ih (n / 128) (by omega) (i + 1) _ r (by omega) (by omega) (by omega)]
      rw [e3]
      congr 2
      omega

theorem scan_enc0 {most n : Nat} (h1 : n ≤ most) (h2 : n < 18446744073709551616) (r : List UInt8) : scan most 0 0 (enc n ++ r) = .ok (n, r) := by
  have := scan_enc most n 0 0 r (by simpa using h1) (by simpa using h2) (fun _ => rfl)
  simpa using this
end Go.Wi
