/- Layer 2's bytes: what is read, written anew, are the bytes that were gone over. Conditions: none. -/
import Derived.Test.YtlflkmigfggdjaaWireMath3
namespace Go.Wi

theorem byte_small {b : UInt8} : UInt8.ofNat b.toNat = b := by simp
theorem scan_inv (most : Nat) : ∀ (l : List UInt8) (i n m : Nat) (l' : List UInt8), scan most i n l = .ok (m, l') → ∃ k, m = n + k * 128 ^ i ∧ l = enc k ++ l' ∧ (k = 0 → i = 0)
  | [], i, n, m, l', h => by simp [scan] at h
  | b :: l, i, n, m, l', h => by
    rw [scan] at h
    have hb : b.toNat < 256 := b.toNat_lt
    split at h
    · cases h
    · split at h
      · rename_i h128
        obtain ⟨k, h1, h2, h3⟩ := scan_inv most l _ _ _ _ h
        have hk : k ≠ 0 := fun h => by have := h3 h; omega
        refine ⟨b.toNat % 128 + 128 * k, ?_, ?_, by omega⟩
        · rw [h1, Nat.add_mul, Nat.pow_succ, Nat.mul_comm 128 k, Nat.mul_assoc, Nat.mul_comm 128 (128 ^ i)]
          omega
        · rw [enc_more (by omega)]
          have e1 : (b.toNat % 128 + 128 * k) % 128 + 128 = b.toNat := by omega
          have e2 : (b.toNat % 128 + 128 * k) / 128 = k := by omega
          rw [e1, e2, byte_small, List.cons_append, h2]
      · split at h
        · cases h
        · simp only [Except.ok.injEq, Prod.mk.injEq] at h
          obtain ⟨rfl, rfl⟩ := h
          refine ⟨b.toNat % 128, rfl, ?_, by omega⟩
          have e1 : b.toNat % 128 = b.toNat := by omega
          rw [enc_small (by omega), e1, byte_small]
          rfl
theorem scan_inv0 {most m : Nat} {l l' : List UInt8} (h : scan most 0 0 l = .ok (m, l')) : l = enc m ++ l' := by
  obtain ⟨k, h1, h2, _⟩ := scan_inv most l 0 0 m l' h
  simp at h1
  rw [h1]
  exact h2

theorem num_inv {most n : Nat} {l : List UInt8} {r2 : Rs} (h : (Rs.mk l 0).num most = ((n, 0), r2)) : l = enc n ++ r2.l := scan_inv0 (Rs.num_ok h).2.2.2
theorem int_inv {x : Int} {l : List UInt8} {r2 : Rs} (h : (Rs.mk l 0).int = ((x, 0), r2)) : l = enc (zig x) ++ r2.l ∧ -9223372036854775808 ≤ x ∧ x ≤ 9223372036854775807 := by
  obtain ⟨_, _, n, h1, rfl⟩ := Rs.int_ok h
  have h2 := (Go.Proofs.Ytlflkmigfggdjaa.scan_le _ _ _ _ _ _ h1).1
  refine ⟨by rw [zig_zag]; exact scan_inv0 h1, ?_⟩
  unfold zag
  split <;> omega
theorem text_inv {m : Int} {t l : List UInt8} {r2 : Rs} (h : (Rs.mk l 0).text m = ((t, 0), r2)) : l = enc t.length ++ (t ++ r2.l) ∧ t.length ≤ l.length ∧ (t.length : Int) ≤ m := by
  obtain ⟨_, _, h3, l', h1, rfl⟩ := Rs.text_ok h
  have := scan_inv0 h1
  refine ⟨this, ?_, h3⟩
  have := congrArg List.length this
  simp at this
  omega

theorem num_len (most : Nat) (r : Rs) : (r.num most).2.l.length ≤ r.l.length := by
  obtain ⟨l, c⟩ := r
  unfold Rs.num
  split
  · exact Nat.le_refl _
  · cases hs : scan most 0 0 l with
    | error c => simp
    | ok p =>
      obtain ⟨m, l'⟩ := p
      have := (Go.Proofs.Ytlflkmigfggdjaa.scan_le _ _ _ _ _ _ hs).2
      simp
      omega
theorem int_len (r : Rs) : r.int.2.l.length ≤ r.l.length := by
  have := num_len 18446744073709551615 r
  unfold Rs.int
  cases hn : r.num 18446744073709551615 with
  | mk p r' =>
    obtain ⟨n, e⟩ := p
    rw [hn] at this
    simp only
    split <;> exact this
theorem text_len (m : Int) (r : Rs) : (r.text m).2.l.length ≤ r.l.length := by
  have := num_len 1099511627776 r
  unfold Rs.text
  cases hn : r.num 1099511627776 with
  | mk p r' =>
    obtain ⟨n, e⟩ := p
    rw [hn] at this
    simp only at this ⊢
    split
    · exact this
    split
    · simp
    split
    · simp
    · simp; omega
theorem value_len (r : Rs) : r.value.2.l.length ≤ r.l.length := by
  have h0 := num_len 1099511627776 r
  unfold Rs.value
  cases hn : r.num 1099511627776 with
  | mk p r' =>
    obtain ⟨n, e⟩ := p
    rw [hn] at h0
    simp only at h0 ⊢
    split
    · exact h0
    split
    · simp
    split
    · have h1 := int_len r'
      cases hi : r'.int with
      | mk p r2 =>
        rw [hi] at h1
        simp only at h1 ⊢
        split
        · simp
        · simp; omega
    split
    · have h1 := num_len 1099511627776 r'
      cases hi : r'.num 1099511627776 with
      | mk p r2 =>
        rw [hi] at h1
        simp only at h1 ⊢
        split
        · simp
        split
        · simp
        · simp; omega
    split
    · have h1 := text_len 40 r'
      cases hi : r'.text 40 with
      | mk p r2 =>
        rw [hi] at h1
        simp only at h1 ⊢
        split
        · simp
        · simp; omega
    · exact h0

theorem value_bad {v : Vl} {c : Nat} {l : List UInt8} {r2 : Rs} (h : (Rs.mk l 0).value = ((v, c), r2)) (hc : c ≠ 0) : v = Vl.zero ∧ r2 = ⟨[], c⟩ := by
  unfold Rs.value at h
  cases hn : (Rs.mk l 0).num 1099511627776 with
  | mk p r' =>
    obtain ⟨n, e⟩ := p
    rw [hn] at h
    simp only at h
    split at h
    · rename_i he
      obtain ⟨rfl, _⟩ := Go.Proofs.Ytlflkmigfggdjaa.Rs.num_e hn he
      simp only [Prod.mk.injEq] at h
      obtain ⟨⟨rfl, rfl⟩, rfl⟩ := h
      exact ⟨rfl, rfl⟩
    split at h
    · simp only [Prod.mk.injEq] at h
      obtain ⟨⟨rfl, rfl⟩, rfl⟩ := h
      exact ⟨rfl, rfl⟩
    split at h
    · split at h
      · simp only [Prod.mk.injEq] at h
        obtain ⟨⟨rfl, rfl⟩, rfl⟩ := h
        exact ⟨rfl, rfl⟩
      · simp only [Prod.mk.injEq] at h
        omega
    split at h
    · split at h
      · simp only [Prod.mk.injEq] at h
        obtain ⟨⟨rfl, rfl⟩, rfl⟩ := h
        exact ⟨rfl, rfl⟩
      split at h
      · simp only [Prod.mk.injEq] at h
        obtain ⟨⟨rfl, rfl⟩, rfl⟩ := h
        exact ⟨rfl, rfl⟩
      · simp only [Prod.mk.injEq] at h
        omega
    split at h
    · split at h
      · simp only [Prod.mk.injEq] at h
        obtain ⟨⟨rfl, rfl⟩, rfl⟩ := h
        exact ⟨rfl, rfl⟩
      · simp only [Prod.mk.injEq] at h
        omega
    · simp only [Prod.mk.injEq] at h
      omega

theorem value_inv {v : Vl} {l : List UInt8} {r2 : Rs} (h : (Rs.mk l 0).value = ((v, 0), r2)) :
    l = encV v.k v.n ⟨v.t.toArray⟩ ++ r2.l ∧ may v.k v.n ⟨v.t.toArray⟩ = true ∧ -9223372036854775808 ≤ v.n ∧ v.n ≤ 9223372036854775807 := by
  unfold Rs.value at h
  cases hn : (Rs.mk l 0).num 1099511627776 with
  | mk p r' =>
    obtain ⟨n, e⟩ := p
    rw [hn] at h
    simp only at h
    split at h
    · simp only [Prod.mk.injEq] at h
      omega
    rename_i he
    obtain rfl : e = 0 := by omega
    have e0 := num_inv hn
    have e1 := (Rs.num_ok hn).1
    obtain ⟨l', e'⟩ := r'
    simp only at e1 e0
    subst e1
    split at h
    · simp only [Prod.mk.injEq] at h
      omega
    split at h
    · rename_i hk
      subst hk
      obtain ⟨⟨⟨x, c⟩, r3⟩, hi⟩ : ∃ q, (Rs.mk l' 0).int = q := ⟨_, rfl⟩
      rw [hi] at h
      simp only at h
      split at h
      · simp only [Prod.mk.injEq] at h
        omega
      · rename_i hc
        obtain rfl : c = 0 := by omega
        simp only [Prod.mk.injEq] at h
        obtain ⟨⟨rfl, _⟩, rfl⟩ := h
        obtain ⟨i1, i2, i3⟩ := int_inv hi
        refine ⟨?_, by simp [may, Go.Proofs.Ytlflkmigfggdjaa.size_mk], i2, i3⟩
        simp only [encV]
        rw [e0, i1]
        simp
    split at h
    · rename_i hk
      subst hk
      obtain ⟨⟨⟨x, c⟩, r3⟩, hi⟩ : ∃ q, (Rs.mk l' 0).num 1099511627776 = q := ⟨_, rfl⟩
      rw [hi] at h
      simp only at h
      split at h
      · simp only [Prod.mk.injEq] at h
        omega
      split at h
      · simp only [Prod.mk.injEq] at h
        omega
      · rename_i hc hx
        obtain rfl : c = 0 := by omega
        simp only [Prod.mk.injEq] at h
        obtain ⟨⟨rfl, _⟩, rfl⟩ := h
        have i1 := num_inv hi
        refine ⟨?_, by simp [may, Go.Proofs.Ytlflkmigfggdjaa.size_mk]; omega, by simp only; omega, by simp only; omega⟩
        simp only [encV]
        rw [e0, i1]
        simp
    split at h
    · rename_i hk
      subst hk
      obtain ⟨⟨⟨x, c⟩, r3⟩, hi⟩ : ∃ q, (Rs.mk l' 0).text 40 = q := ⟨_, rfl⟩
      rw [hi] at h
      simp only at h
      split at h
      · simp only [Prod.mk.injEq] at h
        omega
      · rename_i hc
        obtain rfl : c = 0 := by omega
        simp only [Prod.mk.injEq] at h
        obtain ⟨⟨rfl, _⟩, rfl⟩ := h
        obtain ⟨i1, i2, i3⟩ := text_inv hi
        refine ⟨?_, by simp [may, Go.Proofs.Ytlflkmigfggdjaa.size_mk]; omega, by simp, by simp⟩
        simp only [encV, Go.Proofs.Ytlflkmigfggdjaa.size_mk]
        rw [e0, i1]
        simp
    · simp only [Prod.mk.injEq] at h
      obtain ⟨⟨rfl, _⟩, rfl⟩ := h
      obtain rfl : n = 0 := by omega
      refine ⟨?_, by simp [may, Vl.zero, Go.Proofs.Ytlflkmigfggdjaa.size_mk], by simp [Vl.zero], by simp [Vl.zero]⟩
      rw [e0]
      simp [encV, Vl.zero]
end Go.Wi
