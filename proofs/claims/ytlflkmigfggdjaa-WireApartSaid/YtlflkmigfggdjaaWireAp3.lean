/- callboardlaw02.WireApart returns true at every input. Conditions: none but that lengths are lengths. -/
import Derived.Test.YtlflkmigfggdjaaWireAp2
namespace Go.Proofs.Ytlflkmigfggdjaa
open Go.RowKit Go.Ow Go.Wi

set_option maxRecDepth 100000 in
set_option maxHeartbeats 4000000 in
theorem apart_big (x y : Int) (t u : ByteArray) (k : Nat) (n : Int) (a : ByteArray) (l : Nat) (m : Int) (b : ByteArray) (w : World)
    (ht : t.size ≤ 9223372036854775807) (hu : u.size ≤ 9223372036854775807) (ha : a.size ≤ 9223372036854775807) (hb : b.size ≤ 9223372036854775807)
    (h : 500 < t.size ∨ 500 < u.size ∨ 500 < a.size ∨ 500 < b.size) :
    Calls Try.prog 4 #[.int .i64 x, .int .i64 y, .string t, .string u, val k n a, val l m b] w fun e w' => e = .returned (.bool true) ∧ Below w.heap.size w w' := by
  by_cases h1 : 500 < t.size
  · go_enter Try.func4, Try.ntmps4
    go_wp2_with (go_at_call 10; refine (awake_true _).mono ?_; rintro e w9 ⟨rfl, hb9⟩)
    go_ret
    exact ⟨rfl, Below.step (((Below.refl _ _).alloc (Nat.le_refl _) _).alloc (by simp) _) hb9⟩
  by_cases h2 : 500 < u.size
  · go_enter Try.func4, Try.ntmps4
    go_wp2_with (go_at_call 10; refine (awake_true _).mono ?_; rintro e w9 ⟨rfl, hb9⟩)
    go_ret
    exact ⟨rfl, Below.step (((Below.refl _ _).alloc (Nat.le_refl _) _).alloc (by simp) _) hb9⟩
  by_cases h3 : 500 < a.size
  · go_enter Try.func4, Try.ntmps4
    go_wp2_with (go_at_call 10; refine (awake_true _).mono ?_; rintro e w9 ⟨rfl, hb9⟩)
    go_ret
    exact ⟨rfl, Below.step (((Below.refl _ _).alloc (Nat.le_refl _) _).alloc (by simp) _) hb9⟩
  · have h4 : 500 < b.size := by omega
    go_enter Try.func4, Try.ntmps4
    go_wp2_with (go_at_call 10; refine (awake_true _).mono ?_; rintro e w9 ⟨rfl, hb9⟩)
    go_ret
    exact ⟨rfl, Below.step (((Below.refl _ _).alloc (Nat.le_refl _) _).alloc (by simp) _) hb9⟩

theorem apart_all (x y : Int) (t u : ByteArray) (k : Nat) (n : Int) (a : ByteArray) (l : Nat) (m : Int) (b : ByteArray) (w : World)
    (ht : t.size ≤ 9223372036854775807) (hu : u.size ≤ 9223372036854775807) (ha : a.size ≤ 9223372036854775807) (hb : b.size ≤ 9223372036854775807) (hk : k < 256) (hl : l < 256)
    (hx : -9223372036854775808 ≤ x ∧ x ≤ 9223372036854775807) (hy : -9223372036854775808 ≤ y ∧ y ≤ 9223372036854775807) (hn : -9223372036854775808 ≤ n ∧ n ≤ 9223372036854775807) (hm : -9223372036854775808 ≤ m ∧ m ≤ 9223372036854775807) :
    Calls Try.prog 4 #[.int .i64 x, .int .i64 y, .string t, .string u, val k n a, val l m b] w fun e w' => e = .returned (.bool true) ∧ Below w.heap.size w w' := by
  by_cases hs : t.size ≤ 500 ∧ u.size ≤ 500 ∧ a.size ≤ 500 ∧ b.size ≤ 500
  · obtain ⟨h1, h2, h3, h4⟩ := hs
    cases hv : may k n a
    · exact apart_no x y t u k n a l m b w h1 h2 h3 h4 hk hl hx.1 hx.2 hy.1 hy.2 hn.1 hn.2 hm.1 hm.2 hv
    cases hw : may l m b
    · exact apart_yes_no x y t u k n a l m b w h1 h2 h3 h4 hl hx.1 hx.2 hy.1 hy.2 hn.1 hn.2 hm.1 hm.2 hv hw
    by_cases ek : k = l
    · subst ek
      by_cases en : n = m
      · subst en
        by_cases ea : a = b
        · subst ea
          exact apart_same x y t u k n a w h1 h2 h3 hx.1 hx.2 hy.1 hy.2 hn.1 hn.2 hv
        · exact apart_txt x y t u k n a b w h1 h2 h3 h4 hx.1 hx.2 hy.1 hy.2 hn.1 hn.2 hv hw ea
      · exact apart_num x y t u k n a m b w h1 h2 h3 h4 hx.1 hx.2 hy.1 hy.2 hn.1 hn.2 hm.1 hm.2 hv hw en
    · exact apart_kind x y t u k n a l m b w h1 h2 h3 h4 hx.1 hx.2 hy.1 hy.2 hn.1 hn.2 hm.1 hm.2 hv hw ek
  · exact apart_big x y t u k n a l m b w ht hu ha hb (by omega)
end Go.Proofs.Ytlflkmigfggdjaa
