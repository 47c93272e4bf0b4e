/- What value.May returns. Conditions: lengths are lengths. -/
import Derived.Test.YtblebjgjomamdaaDoorMVal
namespace Go.Proofs.YtblebjgjomamdaaDoor
open Go.RowKit Go.Ow

theorem bcell {W w1 : World} (hb : Below W.heap.size W w1) : (∀ b o, b < W.heap.size → w1.cell? ⟨b, o, none⟩ = W.cell? ⟨b, o, none⟩) ∧ (∀ b o, b < W.heap.size → w1.frozen? ⟨b, o, none⟩ = W.frozen? ⟨b, o, none⟩) :=
  ⟨fun b o h => hb.cell (p := ⟨b, o, none⟩) h, fun b o h => hb.frozen (p := ⟨b, o, none⟩) h⟩
theorem Below.drewN {w : World} (B n : Nat) : Below B w (w.drewN n) := ⟨rfl, rfl, rfl, Nat.le_refl _, fun _ _ => rfl⟩
theorem below_step {w a b : World} (h : Below w.heap.size w a) (k : Below a.heap.size a b) : Below w.heap.size w b := h.trans (k.mono h.size)
theorem mayV0 (n : Int) (t : ByteArray) : mayV 0 n t = decide (n = 0 ∧ t.size = 0) := by simp [mayV]
theorem mayV1 (n : Int) (t : ByteArray) : mayV 1 n t = decide (t.size = 0) := by simp [mayV]
theorem mayV2 (n : Int) (t : ByteArray) : mayV 2 n t = decide ((n = 0 ∨ n = 1) ∧ t.size = 0) := by simp [mayV]
theorem mayV3 (n : Int) (t : ByteArray) : mayV 3 n t = (decide (n = 0) && plainB t) := by simp [mayV]

set_option maxRecDepth 100000 in
set_option maxHeartbeats 4000000 in
theorem may_0 (n : Int) (t : ByteArray) (w : World) (h1 : -9223372036854775808 ≤ n) (h2 : n ≤ 9223372036854775807) (ht : t.size ≤ 9223372036854775807) :
    Calls Tryd.prog 53 #[val 0 n t] w fun e w' => e = .returned (.bool (mayV 0 n t)) ∧ Below w.heap.size w w' := by
  rw [mayV0]
  have HB := Lib.hid (fun o => (Below.refl w.heap.size w).alloc (Nat.le_refl _) o)
  by_cases t0 : t.size = 0
  · obtain rfl := bytes_nil t0
    by_cases n0 : n = 0
    · subst n0
      go_enter Tryd.func53, Tryd.ntmps53
      go_wp2
      go_ret
      exact ⟨rfl, HB.out _⟩
    · go_enter Tryd.func53, Tryd.ntmps53
      go_wp2
      go_ret
      exact ⟨ret_bool (by simp [n0]), HB.out _⟩
  · have e1 := bytes_ne t0
    go_enter Tryd.func53, Tryd.ntmps53
    go_wp2
    all_goals
      go_ret
      exact ⟨ret_bool (by simp [t0]), HB.out _⟩
set_option maxRecDepth 100000 in
set_option maxHeartbeats 4000000 in
theorem may_1 (n : Int) (t : ByteArray) (w : World) (ht : t.size ≤ 9223372036854775807) :
    Calls Tryd.prog 53 #[val 1 n t] w fun e w' => e = .returned (.bool (mayV 1 n t)) ∧ Below w.heap.size w w' := by
  rw [mayV1]
  by_cases t0 : t.size = 0
  · obtain rfl := bytes_nil t0
    go_enter Tryd.func53, Tryd.ntmps53
    go_wp2
    go_region_with (go_at_call 85; refine (num_any _ _).mono ?_; rintro e w1 ⟨rfl, hb⟩; obtain ⟨hc, hf⟩ := bcell hb)
    all_goals
      go_wp2
      go_ret
      exact ⟨rfl, below_step ((Below.refl _ _).alloc (Nat.le_refl _) _).drew hb⟩
  · have e1 := bytes_ne t0
    go_enter Tryd.func53, Tryd.ntmps53
    go_wp2
    go_region_with (go_at_call 85; refine (num_any _ _).mono ?_; rintro e w1 ⟨rfl, hb⟩; obtain ⟨hc, hf⟩ := bcell hb)
    all_goals
      go_wp2
      go_ret
      exact ⟨ret_bool (by simp [t0]), below_step ((Below.refl _ _).alloc (Nat.le_refl _) _).drew hb⟩
set_option maxRecDepth 100000 in
set_option maxHeartbeats 4000000 in
theorem may_2 (n : Int) (t : ByteArray) (w : World) (h1 : -9223372036854775808 ≤ n) (h2 : n ≤ 9223372036854775807) (ht : t.size ≤ 9223372036854775807) :
    Calls Tryd.prog 53 #[val 2 n t] w fun e w' => e = .returned (.bool (mayV 2 n t)) ∧ Below w.heap.size w w' := by
  rw [mayV2]
  by_cases t0 : t.size = 0
  · obtain rfl := bytes_nil t0
    by_cases n0 : n = 0
    · subst n0
      go_enter Tryd.func53, Tryd.ntmps53
      go_wp2
      go_region_with (go_at_call 86; refine (truth_any false _).mono ?_; rintro e w1 ⟨rfl, hb⟩; obtain ⟨hc, hf⟩ := bcell hb)
      all_goals
        go_wp2
        go_ret
        exact ⟨rfl, below_step ((Below.refl _ _).alloc (Nat.le_refl _) _).drew hb⟩
    · have n1 : (n != 0) = true := by simpa using n0
      have n2 : (n == 0) = false := by simpa using n0
      by_cases n3 : n = 1
      · subst n3
        go_enter Tryd.func53, Tryd.ntmps53
        go_wp2
        go_region_with (go_at_call 86; refine (truth_any true _).mono ?_; rintro e w1 ⟨rfl, hb⟩; obtain ⟨hc, hf⟩ := bcell hb)
        all_goals
          go_wp2
          go_ret
          exact ⟨rfl, below_step ((Below.refl _ _).alloc (Nat.le_refl _) _).drew hb⟩
      · go_enter Tryd.func53, Tryd.ntmps53
        go_wp2
        go_region_with (go_at_call 86; refine (truth_any true _).mono ?_; rintro e w1 ⟨rfl, hb⟩; obtain ⟨hc, hf⟩ := bcell hb)
        all_goals
          go_wp2
          go_ret
          exact ⟨ret_bool (by simp [n0, n3]), below_step ((Below.refl _ _).alloc (Nat.le_refl _) _).drew hb⟩
  · have e1 := bytes_ne t0
    by_cases n0 : n = 0
    · subst n0
      go_enter Tryd.func53, Tryd.ntmps53
      go_wp2
      go_region_with (go_at_call 86; refine (truth_any false _).mono ?_; rintro e w1 ⟨rfl, hb⟩; obtain ⟨hc, hf⟩ := bcell hb)
      all_goals
        go_wp2
        go_ret
        exact ⟨ret_bool (by simp [t0]), below_step ((Below.refl _ _).alloc (Nat.le_refl _) _).drew hb⟩
    · have n1 : (n != 0) = true := by simpa using n0
      have n2 : (n == 0) = false := by simpa using n0
      go_enter Tryd.func53, Tryd.ntmps53
      go_wp2
      go_region_with (go_at_call 86; refine (truth_any true _).mono ?_; rintro e w1 ⟨rfl, hb⟩; obtain ⟨hc, hf⟩ := bcell hb)
      all_goals
        go_wp2
        go_ret
        exact ⟨ret_bool (by simp [t0]), below_step ((Below.refl _ _).alloc (Nat.le_refl _) _).drew hb⟩
end Go.Proofs.YtblebjgjomamdaaDoor
