/- callboardlaw02.WireWrites returns true at every input. Conditions: none but that lengths are lengths. -/
import Derived.Test.YtlflkmigfggdjaaWireW4
import Derived.Test.YtlflkmigfggdjaaWireAwake
namespace Go.Proofs.Ytlflkmigfggdjaa
open Go.RowKit Go.Ow Go.Wi

theorem Below.step {w a b : World} (h : Below w.heap.size w a) (k : Below a.heap.size a b) : Below w.heap.size w b := h.trans (k.mono h.size)

set_option maxRecDepth 100000 in
set_option maxHeartbeats 4000000 in
theorem writes_small (s : ByteArray) (n x : Int) (t : ByteArray) (k : Nat) (m : Int) (u : ByteArray) (w : World)
    (hs : s.size ≤ 2000) (ht : t.size ≤ 2000) (hu : u.size ≤ 2000) (hk : k < 256) (hx1 : -9223372036854775808 ≤ x) (hx2 : x ≤ 9223372036854775807) (hm1 : -9223372036854775808 ≤ m) (hm2 : m ≤ 9223372036854775807) :
    Calls Try.prog 3 #[.string s, .int .i64 n, .int .i64 x, .string t, val k m u] w fun e w' => e = .returned (.bool true) ∧ Below w.heap.size w w' := by
  go_enter Try.func3, Try.ntmps3
  go_wp2_with (first
    | (go_at_call 11; refine (num_all _ n _ (by omega)).mono ?_; rintro e w1 ⟨rfl, hb1⟩; obtain ⟨hc1, hf1⟩ := bcell hb1; have hz1 : w.heap.size < w1.heap.size := by (have := hb1.size; simp at this; omega))
    | (go_at_call 12; refine (rnum_all _ n _ (by omega)).mono ?_; rintro e w2 ⟨rfl, hb2⟩; obtain ⟨hc2, hf2⟩ := bcell hb2; have hz2 : w.heap.size < w2.heap.size := Nat.lt_of_lt_of_le hz1 hb2.size)
    | (go_at_call 13; refine (value_all _ k m u _ (by omega) hk hm1 hm2 (by omega)).mono ?_; rintro e w3 ⟨rfl, hb3⟩; obtain ⟨hc3, hf3⟩ := bcell hb3; have hz3 : w.heap.size < w3.heap.size := Nat.lt_of_lt_of_le hz2 hb3.size)
    | (go_at_call 14; refine (rvalue_all _ k m u _ (by omega) hk hm1 hm2 (by omega)).mono ?_; rintro e w4 ⟨rfl, hb4⟩)
    | (go_at_call 15; refine (int_any _ x _ (by omega) hx1 hx2).mono ?_; rintro e w5 ⟨rfl, hb5⟩)
    | (go_at_call 16; refine (rint_any _ x _ (by omega) hx1 hx2).mono ?_; rintro e w6 ⟨rfl, hb6⟩)
    | (go_at_call 17; refine (text_any _ _ _ (by omega) (by omega)).mono ?_; rintro e w7 ⟨rfl, hb7⟩)
    | (go_at_call 18; refine (rtext_any _ _ _ (by omega) (by omega)).mono ?_; rintro e w8 ⟨rfl, hb8⟩)
    | (go_at_call 10; refine (awake_true _).mono ?_; rintro e w9 ⟨rfl, hb9⟩))
  go_ret
  exact ⟨rfl, Below.step (Below.step (Below.step (Below.step (Below.step (Below.step (Below.step (Below.step (Below.step ((Below.refl _ _).alloc (Nat.le_refl _) _) hb1) hb2) hb3) hb4) hb5) hb6) hb7) hb8) hb9⟩

set_option maxRecDepth 100000 in
set_option maxHeartbeats 4000000 in
theorem writes_big (s : ByteArray) (n x : Int) (t : ByteArray) (k : Nat) (m : Int) (u : ByteArray) (w : World) (hs : s.size ≤ 9223372036854775807) (ht : t.size ≤ 9223372036854775807) (hu : u.size ≤ 9223372036854775807)
    (h : 2000 < s.size ∨ 2000 < t.size ∨ 2000 < u.size) :
    Calls Try.prog 3 #[.string s, .int .i64 n, .int .i64 x, .string t, val k m u] w fun e w' => e = .returned (.bool true) ∧ Below w.heap.size w w' := by
  by_cases h1 : 2000 < s.size
  · go_enter Try.func3, Try.ntmps3
    go_wp2_with (go_at_call 10; refine (awake_true _).mono ?_; rintro e w9 ⟨rfl, hb9⟩)
    go_ret
    exact ⟨rfl, Below.step ((Below.refl _ _).alloc (Nat.le_refl _) _) hb9⟩
  by_cases h2 : 2000 < t.size
  · go_enter Try.func3, Try.ntmps3
    go_wp2_with (go_at_call 10; refine (awake_true _).mono ?_; rintro e w9 ⟨rfl, hb9⟩)
    go_ret
    exact ⟨rfl, Below.step ((Below.refl _ _).alloc (Nat.le_refl _) _) hb9⟩
  · have h3 : 2000 < u.size := by omega
    go_enter Try.func3, Try.ntmps3
    go_wp2_with (go_at_call 10; refine (awake_true _).mono ?_; rintro e w9 ⟨rfl, hb9⟩)
    go_ret
    exact ⟨rfl, Below.step ((Below.refl _ _).alloc (Nat.le_refl _) _) hb9⟩
end Go.Proofs.Ytlflkmigfggdjaa
