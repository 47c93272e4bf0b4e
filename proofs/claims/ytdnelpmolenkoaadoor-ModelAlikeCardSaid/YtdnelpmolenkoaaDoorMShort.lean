/- The plain law of ModelShort: what a name begins by; variables without one of them, and with one of them again. Conditions: none. -/
import Derived.Test.YtdnelpmolenkoaaDoorMVars3
namespace Go.Proofs.YtdnelpmolenkoaaDoor
open Go.RowKit Go.Ow

theorem chars_true (l : List UInt8) : ∀ (m k : Nat), chars l k m = true ↔ ∀ j, k ≤ j → j < k + m → nameC j (l.getD j 0).toNat = true
  | 0, k => by simp [chars]; intro j h1 h2; omega
  | m + 1, k => by
    rw [chars, Bool.and_eq_true, chars_true l m (k + 1)]
    constructor
    · rintro ⟨h1, h2⟩ j hj hj2
      by_cases h : j = k
      · subst h; exact h1
      · exact h2 j (by omega) (by omega)
    · intro h
      exact ⟨h k (Nat.le_refl _) (by omega), fun j h1 h2 => h j (by omega) (by omega)⟩
/-- n, as a place inside m -/
theorem less_at (n : Int) (m : Nat) (h1 : 1 ≤ m) : ∃ j : Nat, j < m ∧ (IntKind.u64.wrap n).tmod m = j ∧ IntKind.u64.wrap n % m = j := by
  have h0 : 0 ≤ IntKind.u64.wrap n := by rw [IntKind.wrap_u64]; omega
  obtain ⟨L, hL⟩ := Int.eq_ofNat_of_zero_le h0
  refine ⟨L % m, Nat.mod_lt _ (by omega), ?_, ?_⟩
  · rw [hL]; rfl
  · rw [hL]; rfl
/-- is it yes, no or len? -/
def resB (t : ByteArray) : Bool := decide (t = ⟨#[121, 101, 115]⟩) || (decide (t = ⟨#[110, 111]⟩) || decide (t = ⟨#[108, 101, 110]⟩))
theorem isRes_eq (t : ByteArray) : isRes t = resB t := by
  have h : isRes t = true ↔ resB t = true := by
    unfold isRes resB
    rw [anyB_true]
    simp only [Bool.or_eq_true, decide_eq_true_eq]
    constructor
    · rintro ⟨j, hj, h⟩
      have hj' : j = 0 ∨ j = 1 ∨ j = 2 := by omega
      rcases hj' with rfl | rfl | rfl
      · exact .inl h.symm
      · exact .inr (.inl h.symm)
      · exact .inr (.inr h.symm)
    · rintro (h | h | h)
      · exact ⟨0, by decide, h.symm⟩
      · exact ⟨1, by decide, h.symm⟩
      · exact ⟨2, by decide, h.symm⟩
  cases h1 : isRes t <;> cases h2 : resB t <;> simp_all
theorem isName_size {s : ByteArray} (h : isName s = true) : 1 ≤ s.size ∧ s.size ≤ 12 := by
  unfold isName at h
  simp only [Bool.and_eq_true, decide_eq_true_eq] at h
  exact h.1
theorem isName_begin {s t : ByteArray} (h : isName s = true) (m : Nat) (h1 : 1 ≤ m) (h2 : m ≤ s.size) (ht : t.data.toList = s.data.toList.take m) : isName t = !resB t := by
  have hsz : t.size = m := by
    have : t.data.toList.length = m := by
      rw [ht, List.length_take]
      have : s.data.toList.length = s.size := by rw [Array.length_toList]; rfl
      omega
    rw [← this, Array.length_toList]; rfl
  unfold isName at h ⊢
  simp only [Bool.and_eq_true, decide_eq_true_eq] at h
  have hc : chars t.data.toList 0 t.size = true := by
    rw [chars_true]
    intro j _ hj
    have := (chars_true s.data.toList s.size 0).1 h.2.2 j (by omega) (by omega)
    rw [ht]
    have he : (s.data.toList.take m).getD j 0 = s.data.toList.getD j 0 := by
      simp only [List.getD_eq_getElem?_getD, List.getElem?_take]
      rw [if_pos (by omega)]
    rw [he]
    exact this
  have hd : decide (1 ≤ t.size ∧ t.size ≤ 12) = true := by simp only [decide_eq_true_eq]; omega
  rw [hc, hd, isRes_eq]
  simp
theorem unlike_true (f : Nat → Va) : ∀ (m k : Nat), unlikeF f k m = true ↔ ∀ j, k ≤ j → j < k + m → varOk (f j) = true ∧ ∀ i, i < j → (f i).nm ≠ (f j).nm
  | 0, k => by simp [unlikeF]; intro j h1 h2; omega
  | m + 1, k => by
    rw [unlikeF, Bool.and_eq_true, unlike_true f m (k + 1)]
    have hk : (varOk (f k) && !anyB (fun j => decide ((f j).nm = (f k).nm)) k) = true ↔ varOk (f k) = true ∧ ∀ i, i < k → (f i).nm ≠ (f k).nm := by
      rw [Bool.and_eq_true]
      refine and_congr Iff.rfl ?_
      cases ha : anyB (fun j => decide ((f j).nm = (f k).nm)) k
      · simp only [Bool.not_false, true_iff]
        intro i hi he
        have := (anyB_true (p := fun j => decide ((f j).nm = (f k).nm))).2 ⟨i, hi, by simp [he]⟩
        rw [ha] at this
        cases this
      · simp only [Bool.not_true, Bool.false_eq_true, false_iff]
        intro h
        obtain ⟨j, hj, he⟩ := anyB_true.1 ha
        exact h j hj (by simpa using he)
    rw [hk]
    constructor
    · rintro ⟨h1, h2⟩ j hj hj2
      by_cases h : j = k
      · subst h; exact h1
      · exact h2 j (by omega) (by omega)
    · intro h
      exact ⟨h k (Nat.le_refl _) (by omega), fun j h1 h2 => h j (by omega) (by omega)⟩
theorem varsE_zero {m : Nat} {f : Nat → Va} : varsE m f = 0 ↔ m ≤ 8 ∧ ∀ j, j < m → varOk (f j) = true ∧ ∀ i, i < j → (f i).nm ≠ (f j).nm := by
  unfold varsE
  have h := unlike_true f m 0
  by_cases h8 : 8 < m
  · rw [if_pos h8]
    constructor
    · intro h; cases h
    · intro h; omega
  · rw [if_neg h8]
    cases hu : unlikeF f 0 m
    · rw [hu] at h
      constructor
      · intro h'; cases h'
      · intro h'
        have := h.2 (fun j _ hj => h'.2 j (by omega))
        cases this
    · constructor
      · intro _
        exact ⟨by omega, fun j hj => h.1 hu j (Nat.zero_le _) (by omega)⟩
      · intro _; rfl
/-- without number k -/
def lessF (f : Nat → Va) (k j : Nat) : Va := if j < k then f j else f (j + 1)
/-- with number k once more, behind all m -/
def moreF (f : Nat → Va) (m k j : Nat) : Va := if j < m then f j else f k
theorem varsE_less {m k : Nat} {f : Nat → Va} (h : varsE m f = 0) (hk : k < m) : varsE (k + (m - (k + 1))) (lessF f k) = 0 := by
  rw [varsE_zero] at h ⊢
  refine ⟨by omega, fun j hj => ?_⟩
  unfold lessF
  by_cases h1 : j < k
  · simp only [if_pos h1]
    refine ⟨(h.2 j (by omega)).1, fun i hi => ?_⟩
    rw [if_pos (by omega)]
    exact (h.2 j (by omega)).2 i hi
  · simp only [if_neg h1]
    refine ⟨(h.2 (j + 1) (by omega)).1, fun i hi => ?_⟩
    by_cases h2 : i < k
    · rw [if_pos h2]; exact (h.2 (j + 1) (by omega)).2 i (by omega)
    · rw [if_neg h2]; exact (h.2 (j + 1) (by omega)).2 (i + 1) (by omega)
theorem varsE_more {m k : Nat} {f : Nat → Va} (hk : k < m) : varsE (m + 1) (moreF f m k) ≠ 0 := by
  rw [Ne, varsE_zero]
  rintro ⟨_, h⟩
  have := (h m (by omega)).2 k hk
  unfold moreF at this
  rw [if_pos hk, if_neg (by omega)] at this
  exact this rfl
end Go.Proofs.YtdnelpmolenkoaaDoor
