/- What value.May returns. Conditions: lengths are lengths. -/
import Derived.Test.YtblebjgjomamdaaDoorMMay
namespace Go.Proofs.YtblebjgjomamdaaDoor
open Go.RowKit Go.Ow

set_option maxRecDepth 100000 in
set_option maxHeartbeats 4000000 in
theorem may_3 (n : Int) (t : ByteArray) (w : World) (h1 : -9223372036854775808 ≤ n) (h2 : n ≤ 9223372036854775807) (ht : t.size ≤ 9223372036854775807) :
    Calls Tryd.prog 53 #[val 3 n t] w fun e w' => e = .returned (.bool (mayV 3 n t)) ∧ Below w.heap.size w w' := by
  rw [mayV3]
  by_cases n0 : n = 0
  · subst n0
    go_enter Tryd.func53, Tryd.ntmps53
    go_wp2
    go_region_with (first | (go_at_call 87; refine (textv_any _ _).mono ?_; rintro e w1 ⟨rfl, hb⟩; obtain ⟨hc, hf⟩ := bcell hb) | (go_at_call 88; refine (plain_any _ _ ht).mono ?_; rintro e w2 ⟨rfl, rfl⟩))
    all_goals
      go_wp2
      go_ret
      exact ⟨ret_bool (by simp), below_step ((Below.refl _ _).alloc (Nat.le_refl _) _).drew hb⟩
  · have n2 : (n == 0) = false := by simpa using n0
    go_enter Tryd.func53, Tryd.ntmps53
    go_wp2
    first | (go_region_with (go_at_call 87; refine (textv_any _ _).mono ?_; rintro e w1 ⟨rfl, hb⟩; obtain ⟨hc, hf⟩ := bcell hb)) | fail
    all_goals
      go_wp2
      go_ret
      exact ⟨ret_bool (by simp [n0]), below_step ((Below.refl _ _).alloc (Nat.le_refl _) _).drew hb⟩
theorem may_any (k : Nat) (n : Int) (t : ByteArray) (w : World) (h1 : -9223372036854775808 ≤ n) (h2 : n ≤ 9223372036854775807) (ht : t.size ≤ 9223372036854775807) :
    Calls Tryd.prog 53 #[val k n t] w fun e w' => e = .returned (.bool (mayV k n t)) ∧ Below w.heap.size w w' := by
  by_cases k0 : k = 0
  · subst k0; exact may_0 n t w h1 h2 ht
  by_cases k1 : k = 1
  · subst k1; exact may_1 n t w ht
  by_cases k2 : k = 2
  · subst k2; exact may_2 n t w h1 h2 ht
  by_cases k3 : k = 3
  · subst k3; exact may_3 n t w h1 h2 ht
  have e : mayV k n t = false := by simp [mayV, k0, k1, k2, k3]
  rw [e]
  have k0' : ((k : Int) == 0) = false := by simp; omega
  have k1' : ((k : Int) == 1) = false := by simp; omega
  have k2' : ((k : Int) == 2) = false := by simp; omega
  have k3' : ((k : Int) == 3) = false := by simp; omega
  clear e k0 k1 k2 k3
  go_enter Tryd.func53, Tryd.ntmps53
  go_wp2
  go_ret
  exact ⟨rfl, (Below.refl _ _).alloc (Nat.le_refl _) _⟩
end Go.Proofs.YtblebjgjomamdaaDoor
