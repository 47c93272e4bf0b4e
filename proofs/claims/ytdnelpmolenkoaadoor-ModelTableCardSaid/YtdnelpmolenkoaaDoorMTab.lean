/- What a node that may be is like: the plain law of ModelTable. Conditions: none. -/
import Derived.Test.YtdnelpmolenkoaaDoorMData
namespace Go.Proofs.YtdnelpmolenkoaaDoor
open Go.RowKit Go.Ow

theorem ba_eq {a b : ByteArray} (h : (a == b) = true) : a = b := by
  cases a; cases b
  have h' : ByteArray.beq _ _ = true := h
  unfold ByteArray.beq at h'
  simp at h'
  simp [h']
theorem ba_refl (a : ByteArray) : (a == a) = true := by
  cases a
  show ByteArray.beq _ _ = true
  unfold ByteArray.beq
  simp
theorem nOk8_7 {d : Nd} {m n : Nat} {f : Nat → Va} {g : Nat → ByteArray} (h : nOk8 d m f n g = true) : nOk7 d m f = true := by
  unfold nOk8 at h; cases hc : nC8 d <;> simp [hc] at h; exact h; exact h.2
theorem nOk7_6 {d : Nd} {m : Nat} {f : Nat → Va} (h : nOk7 d m f = true) : nOk6 d = true := by
  unfold nOk7 at h; cases hc : scopeB d.kind <;> simp [hc] at h; exact h; exact h.2
theorem nOk6_5 {d : Nd} (h : nOk6 d = true) : nOk5 d = true := by
  unfold nOk6 at h; cases hc : nC6 d <;> simp [hc] at h; exact h; exact h.2
theorem nOk5_4 {d : Nd} (h : nOk5 d = true) : nOk4 d = true := by
  unfold nOk5 at h; simp at h; exact h.2
theorem nOk4_3 {d : Nd} (h : nOk4 d = true) : nOk3 d = true := by
  unfold nOk4 at h; cases hc : nC4 d <;> simp [hc] at h; exact h; exact h.2
theorem nOk3_2 {d : Nd} (h : nOk3 d = true) : nOk2 d = true := by
  unfold nOk3 at h; cases hc : nC3 d <;> simp [hc] at h; exact h; exact h.2
theorem nOk2_1 {d : Nd} (h : nOk2 d = true) : nOk1 d = true := by
  unfold nOk2 at h; cases hc : nC2 d <;> simp [hc] at h; exact h; exact h.2
theorem nOk1_0 {d : Nd} (h : nOk1 d = true) : nOk0 d = true := by
  unfold nOk1 at h; cases hc : nC1 d <;> simp [hc] at h; exact h; exact h.2
theorem nodeE_zero {d : Nd} {m n : Nat} {f : Nat → Va} {g : Nat → ByteArray} (h : nodeE d m f n g = 0) :
    nOk8 d m f n g = true ∧ sameD (nRest d) nZero f f g g (cond (scopeB d.kind) 0 m) 0 (cond (nC8 d) 0 n) 0 = true := by
  unfold nodeE at h
  split at h
  · cases h
  · split at h
    · rename_i h2; simpa using h2
    · cases h
theorem nodeE_ev {d : Nd} {m n : Nat} {f : Nat → Va} {g : Nat → ByteArray} (h : nodeE d m f n g = 0) : isName d.name = true ∧ evB d.kind d.event = true := by
  have h0 := nOk1_0 (nOk2_1 (nOk3_2 (nOk4_3 (nOk5_4 (nOk6_5 (nOk7_6 (nOk8_7 (nodeE_zero h).1)))))))
  unfold nOk0 at h0
  simp at h0
  exact ⟨h0.1, h0.2.2⟩
theorem nodeE_vars {d : Nd} {m n : Nat} {f : Nat → Va} {g : Nat → ByteArray} (h : nodeE d m f n g = 0) (hm : 0 < m) : scopeB d.kind = true := by
  have h1 := (nodeE_zero h).2
  unfold sameD eqV at h1
  cases hs : scopeB d.kind
  · rw [hs] at h1
    simp at h1
    omega
  · rfl
theorem nodeE_on {d : Nd} {m n : Nat} {f : Nat → Va} {g : Nat → ByteArray} (h : nodeE d m f n g = 0) : (0 ≤ d.on ↔ d.kind = 15) := by
  have h0 := nOk6_5 (nOk7_6 (nOk8_7 (nodeE_zero h).1))
  unfold nOk5 pOn at h0
  simp at h0
  omega
theorem isName_pos {s : ByteArray} (h : isName s = true) : s.size ≠ 0 := by
  unfold isName at h
  simp at h
  omega
theorem nodeE_set {d : Nd} {m n : Nat} {f : Nat → Va} {g : Nat → ByteArray} (h : nodeE d m f n g = 0) : (d.set.size ≠ 0 ↔ d.kind = 4) := by
  have h0 := nOk5_4 (nOk6_5 (nOk7_6 (nOk8_7 (nodeE_zero h).1)))
  have h1 := (nodeE_zero h).2
  by_cases hk : d.kind = 4
  · have hc : nC4 d = true := by simp [nC4, hk]
    unfold nOk4 at h0
    rw [hc] at h0
    simp at h0
    exact ⟨fun _ => hk, fun _ => isName_pos h0.1⟩
  · have hc : nC4 d = false := by simp [nC4, hk]
    unfold sameD sameN at h1
    simp only [Bool.and_eq_true] at h1
    have h2 := h1.1.2.2.2.2.2.2.2.1
    simp only [nRest, nZero, s4, hc, cond] at h2
    have h3 : d.set = ⟨#[]⟩ := ba_eq h2
    exact ⟨fun h => absurd (by rw [h3]; rfl) h, fun h => absurd h hk⟩

/-- does one of the events below n go with the kind? -/
def anyE (k : Nat) : Nat → Bool
  | 0 => false
  | n + 1 => anyE k n || evB k n
theorem anyE_big {k : Nat} (h : 16 ≤ k) : ∀ n, anyE k n = false
  | 0 => rfl
  | n + 1 => by
    have : ¬ k < 16 := by omega
    rw [anyE, anyE_big h n]
    simp [evB, this]
theorem anyE_mono {k : Nat} : ∀ n m, anyE k n = true → anyE k (n + m) = true
  | _, 0, h => h
  | n, m + 1, h => by rw [← Nat.add_assoc, anyE, anyE_mono n m h]; rfl
theorem anyE_zero : ∀ n, anyE 0 n = false
  | 0 => rfl
  | n + 1 => by rw [anyE, anyE_zero n]; simp [evB, evRow, anyB, fI]
theorem anyE_all (k : Nat) : anyE k 256 = (decide (1 ≤ k) && decide (k ≤ 15)) := by
  by_cases h : 16 ≤ k
  · have : ¬ k ≤ 15 := by omega
    rw [anyE_big h]; simp [this]
  · by_cases h0 : k = 0
    · subst h0; rw [anyE_zero]; rfl
    · have h1 : anyE k 2 = true := by
        have : k = 1 ∨ k = 2 ∨ k = 3 ∨ k = 4 ∨ k = 5 ∨ k = 6 ∨ k = 7 ∨ k = 8 ∨ k = 9 ∨ k = 10 ∨ k = 11 ∨ k = 12 ∨ k = 13 ∨ k = 14 ∨ k = 15 := by omega
        rcases this with rfl | rfl | rfl | rfl | rfl | rfl | rfl | rfl | rfl | rfl | rfl | rfl | rfl | rfl | rfl <;> decide
      rw [anyE_mono 2 254 h1]
      have a : 1 ≤ k := by omega
      have b : k ≤ 15 := by omega
      simp [a, b]
end Go.Proofs.YtdnelpmolenkoaaDoor
