/- What callboardref14.Event, Activity, ScopeNode, Flow and model.Activity return. Conditions: none. -/
import Derived.Test.YtdnelpmolenkoaaDoorMFlow
namespace Go.Proofs.YtdnelpmolenkoaaDoor
open Go.RowKit Go.Ow

def actB (k : Nat) : Bool := decide (k = 3 ∨ k = 11 ∨ k = 12 ∨ k = 14)
theorem ret_iff {a b : Bool} (h : a = true ↔ b = true) : Ending.returned (.bool a) = .returned (.bool b) := by rw [Bool.eq_iff_iff.2 h]
set_option maxHeartbeats 4000000 in
theorem ract_any (k : Nat) (w : World) :
    Calls Tryd.prog 28 #[.int .u8 k] w fun r w' => r = .returned (.bool (actB k)) ∧ w = w' := by
  go_enter Tryd.func28, Tryd.ntmps28
  go_wp2
  all_goals
    go_ret
    exact ⟨ret_iff (by simp only [actB, decide_eq_true_eq, Bool.or_eq_true, beq_iff_eq, eq_self, true_iff]; omega), rfl⟩
theorem scopeB_iff (k : Nat) : scopeB k = true ↔ k = 11 ∨ k = 12 ∨ k = 13 := by
  unfold scopeB
  rw [anyB_true]
  constructor
  · rintro ⟨j, hj, h⟩
    rw [decide_eq_true_eq] at h
    obtain rfl | rfl | rfl : j = 0 ∨ j = 1 ∨ j = 2 := by omega
    · exact .inl h.symm
    · exact .inr (.inl h.symm)
    · exact .inr (.inr h.symm)
  · rintro (rfl | rfl | rfl)
    · exact ⟨0, by decide, rfl⟩
    · exact ⟨1, by decide, rfl⟩
    · exact ⟨2, by decide, rfl⟩
set_option maxHeartbeats 4000000 in
theorem rscope_any (k : Nat) (w : World) :
    Calls Tryd.prog 29 #[.int .u8 k] w fun r w' => r = .returned (.bool (scopeB k)) ∧ w = w' := by
  go_enter Tryd.func29, Tryd.ntmps29
  go_wp2
  all_goals
    go_ret
    exact ⟨ret_iff (by simp only [scopeB_iff, Bool.or_eq_true, beq_iff_eq, eq_self, true_iff]; omega), rfl⟩
def actF (j : Nat) : Nat := [3, 11, 12, 14].getD j 0
theorem actB_any (k : Nat) : anyB (fun j => decide (actF j = k)) 4 = actB k := by
  rw [Bool.eq_iff_iff, anyB_true]
  simp only [actB, decide_eq_true_eq]
  constructor
  · rintro ⟨j, hj, h⟩
    obtain rfl | rfl | rfl | rfl : j = 0 ∨ j = 1 ∨ j = 2 ∨ j = 3 := by omega
    · exact .inl h.symm
    · exact .inr (.inl h.symm)
    · exact .inr (.inr (.inl h.symm))
    · exact .inr (.inr (.inr h.symm))
  · rintro (rfl | rfl | rfl | rfl)
    · exact ⟨0, by decide, rfl⟩
    · exact ⟨1, by decide, rfl⟩
    · exact ⟨2, by decide, rfl⟩
    · exact ⟨3, by decide, rfl⟩
theorem act_any (k : Nat) (w : World) :
    Calls Tryd.prog 27 #[.int .u8 k] w fun r w' => r = .returned (.bool (actB k)) ∧ Below w.heap.size w w' := by
  have HC := Lib.hid (contains_u8 (some ⟨w.heap.size, 0, none⟩) 4 4 actF k (w.alloc (.cells #[.int .u8 3, .int .u8 11, .int .u8 12, .int .u8 14] 5)) (fun j hj => ⟨w.heap.size, 0, rfl, by simp, by
    have : j = 0 ∨ j = 1 ∨ j = 2 ∨ j = 3 := by omega
    rcases this with rfl | rfl | rfl | rfl <;> simp [actF]⟩) (by decide))
  rw [actB_any] at HC
  obtain ⟨b, hb⟩ : ∃ b, actB k = b := ⟨_, rfl⟩
  rw [hb] at HC ⊢
  clear hb
  go_enter Tryd.func27, Tryd.ntmps27
  go_wp2_with (go_at_call 31; refine HC.out.mono ?_; rintro e w' ⟨rfl, rfl⟩)
  go_ret
  exact ⟨rfl, (Below.refl _ _).alloc (Nat.le_refl _) _⟩
theorem evB_iff (k e : Nat) : evB k e = true ↔ (k = 1 ∧ e ≤ 5) ∨ (k = 2 ∧ (e = 0 ∨ e = 1 ∨ e = 4 ∨ e = 5 ∨ e = 7)) ∨ (k = 5 ∧ (e = 0 ∨ e = 1 ∨ e = 5 ∨ e = 6)) ∨ (k = 6 ∧ (e = 1 ∨ e = 2 ∨ e = 3 ∨ e = 6)) ∨ (k = 15 ∧ 1 ≤ e ∧ e ≤ 5) ∨ (3 ≤ k ∧ k ≤ 14 ∧ k ≠ 5 ∧ k ≠ 6 ∧ e = 0) := by
  unfold evB
  rw [Bool.and_eq_true, decide_eq_true_eq, anyB_true]
  constructor
  · rintro ⟨hk, j, hj, h⟩
    rw [decide_eq_true_eq] at h
    have hk' : k = 0 ∨ k = 1 ∨ k = 2 ∨ k = 3 ∨ k = 4 ∨ k = 5 ∨ k = 6 ∨ k = 7 ∨ k = 8 ∨ k = 9 ∨ k = 10 ∨ k = 11 ∨ k = 12 ∨ k = 13 ∨ k = 14 ∨ k = 15 := by omega
    rcases hk' with rfl | rfl | rfl | rfl | rfl | rfl | rfl | rfl | rfl | rfl | rfl | rfl | rfl | rfl | rfl | rfl
    all_goals
      simp only [evRow, List.length_cons, List.length_nil] at hj
      try omega
    all_goals
      have hj' : j = 0 ∨ j = 1 ∨ j = 2 ∨ j = 3 ∨ j = 4 ∨ j = 5 := by omega
      rcases hj' with rfl | rfl | rfl | rfl | rfl | rfl <;> simp [evRow] at h hj <;> omega
  · intro h
    refine ⟨by omega, ?_⟩
    rcases h with ⟨rfl, h⟩ | ⟨rfl, h⟩ | ⟨rfl, h⟩ | ⟨rfl, h⟩ | ⟨rfl, h⟩ | h
    · refine ⟨e, Nat.lt_of_le_of_lt h (by decide), ?_⟩
      have : e = 0 ∨ e = 1 ∨ e = 2 ∨ e = 3 ∨ e = 4 ∨ e = 5 := by omega
      rcases this with rfl | rfl | rfl | rfl | rfl | rfl <;> rfl
    · rcases h with rfl | rfl | rfl | rfl | rfl
      · exact ⟨0, by decide, rfl⟩
      · exact ⟨1, by decide, rfl⟩
      · exact ⟨2, by decide, rfl⟩
      · exact ⟨3, by decide, rfl⟩
      · exact ⟨4, by decide, rfl⟩
    · rcases h with rfl | rfl | rfl | rfl
      · exact ⟨0, by decide, rfl⟩
      · exact ⟨1, by decide, rfl⟩
      · exact ⟨2, by decide, rfl⟩
      · exact ⟨3, by decide, rfl⟩
    · rcases h with rfl | rfl | rfl | rfl
      · exact ⟨0, by decide, rfl⟩
      · exact ⟨1, by decide, rfl⟩
      · exact ⟨2, by decide, rfl⟩
      · exact ⟨3, by decide, rfl⟩
    · have : e = 1 ∨ e = 2 ∨ e = 3 ∨ e = 4 ∨ e = 5 := by omega
      rcases this with rfl | rfl | rfl | rfl | rfl
      · exact ⟨0, by decide, rfl⟩
      · exact ⟨1, by decide, rfl⟩
      · exact ⟨2, by decide, rfl⟩
      · exact ⟨3, by decide, rfl⟩
      · exact ⟨4, by decide, rfl⟩
    · obtain ⟨h1, h2, h3, h4, rfl⟩ := h
      have : k = 3 ∨ k = 4 ∨ k = 7 ∨ k = 8 ∨ k = 9 ∨ k = 10 ∨ k = 11 ∨ k = 12 ∨ k = 13 ∨ k = 14 := by omega
      rcases this with rfl | rfl | rfl | rfl | rfl | rfl | rfl | rfl | rfl | rfl <;> exact ⟨0, by decide, rfl⟩
theorem int_ne {k c : Nat} (h : ¬ k = c) : ((k : Int) == (c : Int)) = false := by simp; omega
set_option maxHeartbeats 8000000 in
theorem revent_any (k e : Nat) (w : World) :
    Calls Tryd.prog 26 #[.int .u8 k, .int .u8 e] w fun r w' => r = .returned (.bool (evB k e)) ∧ w = w' := by
  by_cases k1 : k = 1
  · subst k1
    go_enter Tryd.func26, Tryd.ntmps26
    go_wp2
    all_goals
      go_ret
      exact ⟨ret_iff (by rw [evB_iff]; simp; try omega), rfl⟩
  have n1 : ((k : Int) == 1) = false := int_ne k1
  by_cases k2 : k = 2
  · subst k2
    go_enter Tryd.func26, Tryd.ntmps26
    go_wp2
    all_goals
      go_ret
      exact ⟨ret_iff (by rw [evB_iff]; simp; try omega), rfl⟩
  have n2 : ((k : Int) == 2) = false := int_ne k2
  by_cases k5 : k = 5
  · subst k5
    go_enter Tryd.func26, Tryd.ntmps26
    go_wp2
    all_goals
      go_ret
      exact ⟨ret_iff (by rw [evB_iff]; simp; try omega), rfl⟩
  have n5 : ((k : Int) == 5) = false := int_ne k5
  by_cases k6 : k = 6
  · subst k6
    go_enter Tryd.func26, Tryd.ntmps26
    go_wp2
    all_goals
      go_ret
      exact ⟨ret_iff (by rw [evB_iff]; simp; try omega), rfl⟩
  have n6 : ((k : Int) == 6) = false := int_ne k6
  by_cases k15 : k = 15
  · subst k15
    go_enter Tryd.func26, Tryd.ntmps26
    go_wp2
    all_goals
      go_ret
      exact ⟨ret_iff (by rw [evB_iff]; simp; try omega), rfl⟩
  have n15 : ((k : Int) == 15) = false := int_ne k15
  by_cases ka : 3 ≤ k
  · by_cases kb : k ≤ 14
    · by_cases e0 : e = 0
      · subst e0
        have E := Lib.hid (show evB k 0 = true by rw [evB_iff]; omega)
        clear k1 k2 k5 k6 k15
        go_enter Tryd.func26, Tryd.ntmps26
        go_wp2
        go_ret
        exact ⟨ret_bool E.out.symm, rfl⟩
      · have m0 : ((e : Int) == 0) = false := int_ne e0
        have E := Lib.hid (show evB k e = false by rw [Bool.eq_false_iff, Ne, evB_iff]; omega)
        clear k1 k2 k5 k6 k15 e0
        go_enter Tryd.func26, Tryd.ntmps26
        go_wp2
        go_ret
        exact ⟨ret_bool E.out.symm, rfl⟩
    · have E := Lib.hid (show evB k e = false by rw [Bool.eq_false_iff, Ne, evB_iff]; omega)
      clear k1 k2 k5 k6 k15
      go_enter Tryd.func26, Tryd.ntmps26
      go_wp2
      go_ret
      exact ⟨ret_bool E.out.symm, rfl⟩
  · have E := Lib.hid (show evB k e = false by rw [Bool.eq_false_iff, Ne, evB_iff]; omega)
    clear k1 k2 k5 k6 k15
    go_enter Tryd.func26, Tryd.ntmps26
    go_wp2
    go_ret
    exact ⟨ret_bool E.out.symm, rfl⟩
set_option maxHeartbeats 4000000 in
theorem rflow_any (f : Fl) (w : World) (hf : f.fit) :
    Calls Tryd.prog 22 #[.agg (flowC f)] w fun e w' => e = .returned (.int .i64 (flowE f)) ∧ Below w.heap.size w w' := by
  obtain ⟨a1, a2, a3, a4, a5⟩ := hf
  obtain ⟨x, y, s, b⟩ := f
  simp only at a1 a2 a3 a4 a5
  by_cases h1 : 100 < s.size
  · have E := Lib.hid (show flowE ⟨x, y, s, b⟩ = 40 by simp [flowE, h1])
    go_enter Tryd.func22, Tryd.ntmps22
    go_wp2
    go_ret
    exact ⟨ret_int (by rw [E.out]; rfl), (Below.refl _ _).alloc (Nat.le_refl _) _⟩
  by_cases h2 : x < 0
  · have E := Lib.hid (show flowE ⟨x, y, s, b⟩ = 4 by simp [flowE, h1, h2])
    go_enter Tryd.func22, Tryd.ntmps22
    go_wp2
    go_ret
    exact ⟨ret_int (by rw [E.out]; rfl), (Below.refl _ _).alloc (Nat.le_refl _) _⟩
  by_cases h3 : y < 0
  · have E := Lib.hid (show flowE ⟨x, y, s, b⟩ = 4 by simp [flowE, h1, h3])
    go_enter Tryd.func22, Tryd.ntmps22
    go_wp2
    go_ret
    exact ⟨ret_int (by rw [E.out]; rfl), (Below.refl _ _).alloc (Nat.le_refl _) _⟩
  cases b
  · have E := Lib.hid (show flowE ⟨x, y, s, false⟩ = 0 by simp [flowE, h1, h2, h3])
    go_enter Tryd.func22, Tryd.ntmps22
    go_wp2
    go_ret
    exact ⟨ret_int (by rw [E.out]; rfl), (Below.refl _ _).alloc (Nat.le_refl _) _⟩
  · by_cases h4 : s.size = 0
    · obtain rfl := bytes_nil h4
      have E := Lib.hid (show flowE ⟨x, y, ⟨#[]⟩, true⟩ = 0 by unfold flowE; rw [if_neg h1, if_neg (by simp only [h2, h3, h4, ne_eq, not_true_eq_false, and_false, or_self, not_false_iff])])
      clear h4
      go_enter Tryd.func22, Tryd.ntmps22
      go_wp2
      go_ret
      exact ⟨ret_int (by rw [E.out]; rfl), (Below.refl _ _).alloc (Nat.le_refl _) _⟩
    · have E := Lib.hid (show flowE ⟨x, y, s, true⟩ = 4 by simp [flowE, h1, h2, h3, h4])
      have m1 := bytes_ne h4
      have m2 := bytes_emp h4
      clear h4
      go_enter Tryd.func22, Tryd.ntmps22
      go_wp2
      go_ret
      exact ⟨ret_int (by rw [E.out]; rfl), (Below.refl _ _).alloc (Nat.le_refl _) _⟩
end Go.Proofs.YtdnelpmolenkoaaDoor
