/- Layer 2's bytes without their last ones are not read: bytes are missing; what was written is read. Conditions: none. -/
import Derived.Test.YtlflkmigfggdjaaWireV2
namespace Go.Wi

theorem scan_short (most : Nat) : ∀ (n i m k : Nat), k < (enc n).length → m + n * 128 ^ i ≤ most → n * 128 ^ i < 18446744073709551616 → (n = 0 → i = 0) → scan most i m ((enc n).take k) = .error 8 := by
  intro n
  induction n using Nat.strongRecOn with
  | ind n ih =>
    intro i m k hk h1 h2 h3
    cases k with
    | zero => rw [List.take_zero, scan]
    | succ k =>
      have hi : i ≤ 9 := by
        rcases Nat.eq_zero_or_pos n with h0 | h0
        · have := h3 h0; omega
        · rcases Nat.lt_or_ge 9 i with hi | hi
          · exfalso
            have : 128 ^ 10 ≤ 128 ^ i := Nat.pow_le_pow_right (by decide) hi
            have h4 : 1 * 128 ^ i ≤ n * 128 ^ i := Nat.mul_le_mul_right _ h0
            have h5 : (18446744073709551616 : Nat) ≤ 128 ^ 10 := by decide
            omega
          · exact hi
      by_cases hn : n < 128
      · rw [enc_small hn] at hk; simp at hk
      · rw [enc_more (by omega)] at hk ⊢
        simp only [List.take_succ_cons, scan]
        have e1 : (UInt8.ofNat (n % 128 + 128)).toNat = n % 128 + 128 := by simp; omega
        have e2 : (n % 128 + 128) % 128 = n % 128 := by omega
        have e3 : n * 128 ^ i = n / 128 * 128 ^ (i + 1) + n % 128 * 128 ^ i := by
          rw [Nat.pow_succ, Nat.mul_comm (128 ^ i) 128, ← Nat.mul_assoc, ← Nat.add_mul]
          congr 1
          omega
        simp only [List.length_cons] at hk
        rw [e1, e2, if_neg (by omega), if_pos (by omega), ih (n / 128) (by omega) (i + 1) _ k (by omega) (by omega) (by omega) (by omega)]
theorem scan_short0 {most n k : Nat} (hk : k < (enc n).length) (h1 : n ≤ most) (h2 : n < 18446744073709551616) : scan most 0 0 ((enc n).take k) = .error 8 :=
  scan_short most n 0 0 k hk (by simpa using h1) (by simpa using h2) (fun _ => rfl)

theorem num_enc {most n : Nat} (h1 : n ≤ most) (h2 : n < 18446744073709551616) (r : List UInt8) : (Rs.mk (enc n ++ r) 0).num most = ((n, 0), ⟨r, 0⟩) := by
  simp [Rs.num, scan_enc0 h1 h2 r]
theorem num_short {most n k : Nat} (hk : k < (enc n).length) (h1 : n ≤ most) (h2 : n < 18446744073709551616) : (Rs.mk ((enc n).take k) 0).num most = ((0, 8), ⟨[], 8⟩) := by
  simp [Rs.num, scan_short0 hk h1 h2]
theorem int_enc {x : Int} (h1 : -9223372036854775808 ≤ x) (h2 : x ≤ 9223372036854775807) (r : List UInt8) : (Rs.mk (enc (zig x) ++ r) 0).int = ((x, 0), ⟨r, 0⟩) := by
  have := zig_lt x h1 h2
  simp [Rs.int, num_enc (most := 18446744073709551615) (n := zig x) (by omega) (by omega) r, zag_zig]
theorem int_short {x : Int} {k : Nat} (h1 : -9223372036854775808 ≤ x) (h2 : x ≤ 9223372036854775807) (hk : k < (enc (zig x)).length) : (Rs.mk ((enc (zig x)).take k) 0).int = ((0, 8), ⟨[], 8⟩) := by
  have := zig_lt x h1 h2
  simp [Rs.int, num_short (most := 18446744073709551615) hk (by omega) (by omega)]
theorem text_enc {m : Int} {t : List UInt8} (h1 : (t.length : Int) ≤ m) (h2 : t.length ≤ 1000000) (r : List UInt8) : (Rs.mk (enc t.length ++ (t ++ r)) 0).text m = ((t, 0), ⟨r, 0⟩) := by
  have hm : ¬ m < (t.length : Int) := by omega
  simp [Rs.text, num_enc (most := 1099511627776) (n := t.length) (by omega) (by omega), hm]
theorem text_short {m : Int} {t : List UInt8} {k : Nat} (h1 : (t.length : Int) ≤ m) (h2 : t.length ≤ 1000000) (hk : k < (enc t.length).length + t.length) : (Rs.mk ((enc t.length ++ t).take k) 0).text m = (([], 8), ⟨[], 8⟩) := by
  rw [List.take_append]
  by_cases h : k < (enc t.length).length
  · have : k - (enc t.length).length = 0 := by omega
    rw [this, List.take_zero, List.append_nil]
    simp [Rs.text, num_short (most := 1099511627776) h (by omega) (by omega)]
  · rw [List.take_of_length_le (by omega)]
    have hm : ¬ m < (t.length : Int) := by omega
    have hl : (t.take (k - (enc t.length).length)).length < t.length := by rw [List.length_take]; omega
    simp only [Rs.text, num_enc (most := 1099511627776) (n := t.length) (by omega) (by omega), hm, hl, if_false, if_true, ne_eq, not_true_eq_false]
theorem value_enc {k : Nat} {n : Int} {t : ByteArray} (h1 : -9223372036854775808 ≤ n) (h2 : n ≤ 9223372036854775807) (hm : may k n t = true) (r : List UInt8) : (Rs.mk (encV k n t ++ r) 0).value = ((⟨k, n, t.data.toList⟩, 0), ⟨r, 0⟩) := by
  unfold encV
  rw [List.append_assoc]
  have z : ∀ u : ByteArray, u.size = 0 → u.data.toList = [] := fun u hu => by rw [Array.eq_empty_of_size_eq_zero hu]
  rcases may_cases' hm with ⟨rfl, rfl, ht⟩ | ⟨rfl, ht⟩ | ⟨rfl, hn, ht⟩ | ⟨rfl, rfl, ht⟩
  · simp [Rs.value, num_enc, Vl.zero, z t ht]
  · simp [Rs.value, num_enc, int_enc h1 h2, z t ht]
  · have e : ((n.toNat : Nat) : Int) = n := by omega
    have h3 : ¬ 1 < n.toNat := by omega
    simp [Rs.value, num_enc, num_enc (n := n.toNat) (most := 1099511627776) (by omega) (by omega), z t ht, e, h3]
  · have e : t.size = t.data.toList.length := by simp
    have := text_enc (m := 40) (t := t.data.toList) (by rw [← e]; omega) (by rw [← e]; omega) r
    rw [← e] at this
    simp [Rs.value, num_enc, this]
theorem value_short {k : Nat} {n : Int} {t : ByteArray} {j : Nat} (h1 : -9223372036854775808 ≤ n) (h2 : n ≤ 9223372036854775807) (hm : may k n t = true) (hj : j < (encV k n t).length) : (Rs.mk ((encV k n t).take j) 0).value = ((Vl.zero, 8), ⟨[], 8⟩) := by
  unfold encV at hj ⊢
  have hk : k ≤ 3 := by rcases may_cases' hm with h | h | h | h <;> omega
  rw [List.length_append] at hj
  rw [List.take_append]
  have hk1 : (enc k).length = 1 := by rw [enc_small (by omega)]; rfl
  rw [hk1] at hj ⊢
  cases j with
  | zero =>
    rw [List.take_zero]
    simp [Rs.value, Rs.num, scan]
  | succ j =>
    rw [List.take_of_length_le (by omega), Nat.add_sub_cancel]
    rcases may_cases' hm with ⟨rfl, rfl, ht⟩ | ⟨rfl, ht⟩ | ⟨rfl, hn, ht⟩ | ⟨rfl, rfl, ht⟩
    · simp at hj
    · simp at hj ⊢
      simp [Rs.value, num_enc, int_short h1 h2 (k := j) (by omega)]
    · simp at hj ⊢
      simp [Rs.value, num_enc, num_short (n := n.toNat) (k := j) (most := 1099511627776) (by omega) (by omega) (by omega)]
    · have e : t.size = t.data.toList.length := by simp
      simp at hj ⊢
      have := text_short (m := 40) (t := t.data.toList) (k := j) (by rw [← e]; omega) (by rw [← e]; omega) (by rw [← e]; omega)
      rw [← e] at this
      simp [Rs.value, num_enc, this]
end Go.Wi
