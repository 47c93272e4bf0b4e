/- Layer 2's bytes, in plain Lean: no number's bytes begin another one's; texts and values neither; how many bytes. Conditions: none. -/
import Derived.Test.YtlflkmigfggdjaaWireMath
namespace Go.Wi

theorem ofNat_inj {a b : Nat} (ha : a < 256) (hb : b < 256) (h : UInt8.ofNat a = UInt8.ofNat b) : a = b := by
  have := congrArg UInt8.toNat h
  simp at this
  omega

/-- a number's bytes tell it, and where they end -/
theorem enc_parts : ∀ (m n : Nat) (a b : List UInt8), enc m ++ a = enc n ++ b → m = n ∧ a = b := by
  intro m
  induction m using Nat.strongRecOn with
  | ind m ih =>
    intro n a b h
    by_cases hm : m < 128
    · by_cases hn : n < 128
      · rw [enc_small hm, enc_small hn] at h
        simp only [List.cons_append, List.nil_append, List.cons.injEq] at h
        exact ⟨ofNat_inj (by omega) (by omega) h.1, h.2⟩
      · rw [enc_small hm, enc_more (n := n) (by omega)] at h
        simp only [List.cons_append, List.nil_append, List.cons.injEq] at h
        have := ofNat_inj (by omega) (by omega) h.1
        omega
    · by_cases hn : n < 128
      · rw [enc_more (n := m) (by omega), enc_small hn] at h
        simp only [List.cons_append, List.nil_append, List.cons.injEq] at h
        have := ofNat_inj (by omega) (by omega) h.1
        omega
      · rw [enc_more (n := m) (by omega), enc_more (n := n) (by omega)] at h
        simp only [List.cons_append, List.cons.injEq] at h
        have h1 := ofNat_inj (by omega) (by omega) h.1
        have h2 := ih (m / 128) (by omega) (n / 128) a b h.2
        exact ⟨by omega, h2.2⟩

theorem enc_mono (m n : Nat) (h : m ≤ n) : (enc m).length ≤ (enc n).length := by
  induction m using Nat.strongRecOn generalizing n with
  | ind m ih =>
    by_cases hm : m < 128
    · rw [enc_small hm]; have := enc_pos n; simpa using this
    · rw [enc_more (n := m) (by omega), enc_more (n := n) (by omega)]
      have := ih (m / 128) (by omega) (n / 128) (by omega)
      simp; omega

/-- how far from 0 -/
def far (n : Int) : Nat := n.natAbs
theorem far_mono {x y : Int} (h : far x < far y) : (enc (zig x)).length ≤ (enc (zig y)).length := by
  apply enc_mono
  unfold far at h
  unfold zig
  split <;> split <;> omega


theorem beg_int (x y : Int) : (enc (zig x)).isPrefixOf (enc (zig y)) = (x == y) := by
  rw [Bool.eq_iff_iff, List.isPrefixOf_iff_prefix]
  constructor
  · rintro ⟨r, h⟩
    have := (enc_parts (zig x) (zig y) r [] (by simpa using h)).1
    simpa using zig_inj this
  · intro h
    have : x = y := by simpa using h
    subst this
    exact List.prefix_refl _

theorem beg_text (t u : List UInt8) : (enc t.length ++ t).isPrefixOf (enc u.length ++ u) = (t == u) := by
  rw [Bool.eq_iff_iff, List.isPrefixOf_iff_prefix]
  constructor
  · rintro ⟨r, h⟩
    rw [List.append_assoc] at h
    have := enc_parts _ _ _ _ h
    have h3 : t ++ r = u ++ [] := by rw [List.append_nil]; exact this.2
    have h2 := List.append_inj h3 this.1
    simpa using h2.1
  · intro h
    have : t = u := by simpa using h
    subst this
    exact List.prefix_refl _

theorem may_cases' {k : Nat} {n : Int} {t : ByteArray} (h : may k n t = true) : (k = 0 ∧ n = 0 ∧ t.size = 0) ∨ (k = 1 ∧ t.size = 0) ∨ (k = 2 ∧ (n = 0 ∨ n = 1) ∧ t.size = 0) ∨ (k = 3 ∧ n = 0 ∧ t.size ≤ 40) := of_decide_eq_true h
theorem eq_of_size0 {t u : ByteArray} (h : t.size = 0) (k : u.size = 0) : t = u := by
  apply ByteArray.ext
  rw [Array.eq_empty_of_size_eq_zero h, Array.eq_empty_of_size_eq_zero k]
theorem eq_of_list {t u : ByteArray} (h : t.data.toList = u.data.toList) : t = u := by
  apply ByteArray.ext
  exact Array.toList_inj.1 h

/-- a value's bytes tell it, and where they end -/
theorem encV_parts {k l : Nat} {n m : Int} {t u : ByteArray} (h1 : may k n t = true) (h2 : may l m u = true) (a b : List UInt8) (h : encV k n t ++ a = encV l m u ++ b) : k = l ∧ n = m ∧ t = u ∧ a = b := by
  unfold encV at h
  rw [List.append_assoc, List.append_assoc] at h
  obtain ⟨rfl, h⟩ := enc_parts _ _ _ _ h
  rcases may_cases' h1 with ⟨rfl, rfl, ht⟩ | ⟨rfl, ht⟩ | ⟨rfl, hn, ht⟩ | ⟨rfl, rfl, ht⟩ <;> rcases may_cases' h2 with ⟨hk, hm, hu⟩ | ⟨hk, hu⟩ | ⟨hk, hm, hu⟩ | ⟨hk, hm, hu⟩ <;> first | (exfalso; omega) | skip
  · simp at h
    exact ⟨rfl, hm.symm, eq_of_size0 ht hu, h⟩
  · simp at h
    have := enc_parts _ _ _ _ h
    exact ⟨rfl, zig_inj this.1, eq_of_size0 ht hu, this.2⟩
  · simp at h
    have := enc_parts _ _ _ _ h
    exact ⟨rfl, by omega, eq_of_size0 ht hu, this.2⟩
  · simp at h
    have h1 := enc_parts _ _ _ _ h
    have h2 := List.append_inj h1.2 (by simpa using h1.1)
    exact ⟨rfl, hm.symm, eq_of_list h2.1, h2.2⟩
end Go.Wi
