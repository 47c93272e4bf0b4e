/- callboardlaw02.WireShort returns true at every input. Conditions: none but that lengths are lengths. -/
import Derived.Test.YtlflkmigfggdjaaWireAp
import Derived.Test.YtlflkmigfggdjaaWireMath3
namespace Go.Proofs.Ytlflkmigfggdjaa
open Go.RowKit Go.Ow Go.Wi

theorem open_any (s : ByteArray) (w : World) : Calls Try.prog 21 #[.string s] w fun e w' => e = .returned (ptr w.heap.size) ∧ w' = w.alloc (.cells #[.string s, .int .i64 0] 67) := by
  go_enter Try.func21, Try.ntmps21
  go_wp2
  go_ret
  exact ⟨rfl, rfl⟩
theorem rd_of (w : World) (s : ByteArray) (l : List UInt8) (h : s = ⟨l.toArray⟩) : RdW (w.alloc (.cells #[.string s, .int .i64 0] 67)) w.heap.size ⟨l, 0⟩ := by subst h; exact heap_alloc_new w _
theorem below_rd {w w' : World} {o : Obj} (h : But w.heap.size (w.alloc o) w') : Below w.heap.size w w' := ((Below.refl _ _).alloc (Nat.le_refl _) _).trans (h.below (Nat.le_refl _) (by simp))
theorem ext_cat0 (l : List UInt8) (k : Nat) : (cat ⟨#[]⟩ l).extract 0 k = ⟨(l.take k).toArray⟩ := by
  rw [← ext_take]
  congr 1
  apply eq_of_list
  rw [cat0]
theorem size_cat0 (l : List UInt8) : (cat ⟨#[]⟩ l).size = l.length := by rw [cat_size]; show 0 + _ = _; omega
theorem TS_size (t : ByteArray) : (TS t).size = (enc t.size).length + t.size := by unfold TS; rw [size_cat0, List.length_append]; simp
theorem VS_size (k : Nat) (n : Int) (t : ByteArray) : (VS k n t).size = (encV k n t).length := size_cat0 _

theorem sh_int (x : Int) (k : Nat) (w : World) (h1 : -9223372036854775808 ≤ x) (h2 : x ≤ 9223372036854775807) (hk : k < (IS x).size) :
    Calls Try.prog 22 #[ptr w.heap.size] (w.alloc (.cells #[.string ((IS x).extract 0 k), .int .i64 0] 67)) fun e w' => e = .returned (.tuple #[.int .i64 0, .int .i64 8]) ∧ Below w.heap.size w w' := by
  have hl := IS_le x h1 h2
  rw [IS_size] at hk hl
  refine (intW_at w.heap.size ⟨(enc (zig x)).take k, 0⟩ _ 0 8 _ (rd_of w _ _ (ext_cat0 _ _)) (by simp; omega) (int_short h1 h2 hk)).mono ?_
  rintro e w' ⟨rfl, hb, _⟩
  exact ⟨rfl, below_rd hb⟩
theorem sh_text (t : ByteArray) (k : Nat) (w : World) (ht : t.size ≤ 500) (hk : k < (TS t).size) :
    Calls Try.prog 23 #[ptr w.heap.size, .int .i64 500] (w.alloc (.cells #[.string ((TS t).extract 0 k), .int .i64 0] 67)) fun e w' => e = .returned (.tuple #[str [], .int .i64 8]) ∧ Below w.heap.size w w' := by
  have hl := enc_len64 t.size (by omega)
  rw [TS_size] at hk
  have e : t.size = t.data.toList.length := by simp
  refine (textW_at w.heap.size 500 ⟨(enc t.size ++ t.data.toList).take k, 0⟩ ⟨[], 8⟩ [] 8 _ (rd_of w _ _ (ext_cat0 _ _)) (by simp; omega) ?_).mono ?_
  · have := text_short (m := 500) (t := t.data.toList) (k := k) (by rw [← e]; omega) (by rw [← e]; omega) (by rw [← e]; omega)
    rw [← e] at this
    exact this
  rintro e w' ⟨rfl, hb, _⟩
  exact ⟨rfl, below_rd hb⟩
theorem encV_le {k : Nat} {n : Int} {t : ByteArray} (h1 : -9223372036854775808 ≤ n) (h2 : n ≤ 9223372036854775807) (hm : may k n t = true) : 1 ≤ (encV k n t).length ∧ (encV k n t).length ≤ 100 := by
  have hz := enc_len64 _ (zig_lt n h1 h2)
  have ht := enc_len64 t.size
  have hp := enc_pos k
  have he : t.data.toList.length = t.size := by simp
  have hk : (enc k).length ≤ 10 := enc_len64 k (by rcases may_cases hm with h | h | h | h <;> omega)
  have hn : (may k n t = true) → k = 2 → (enc n.toNat).length ≤ 10 := fun hm hk => enc_len64 _ (by rcases may_cases hm with h | h | h | h <;> omega)
  unfold encV
  rw [List.length_append]
  refine ⟨by omega, ?_⟩
  split
  · omega
  split
  · have := hn hm (by assumption); omega
  split
  · rw [List.length_append]; have : t.size ≤ 40 := (by rcases may_cases hm with h | h | h | h <;> omega); have := ht (by omega); omega
  · simp; omega
theorem sh_value (k : Nat) (n : Int) (t : ByteArray) (j : Nat) (w : World) (h1 : -9223372036854775808 ≤ n) (h2 : n ≤ 9223372036854775807) (hm : may k n t = true) (hj : j < (VS k n t).size) :
    Calls Try.prog 24 #[ptr w.heap.size] (w.alloc (.cells #[.string ((VS k n t).extract 0 j), .int .i64 0] 67)) fun e w' => e = .returned (.tuple #[val0, .int .i64 8]) ∧ Below w.heap.size w w' := by
  have hl := encV_le h1 h2 hm
  rw [VS_size] at hj
  have := valueW_any w.heap.size ⟨(encV k n t).take j, 0⟩ _ (rd_of w _ _ (ext_cat0 _ _)) (by simp; omega)
  rw [value_short h1 h2 hm hj] at this
  refine this.mono ?_
  rintro e w' ⟨rfl, hb, _⟩
  exact ⟨rfl, below_rd hb⟩

/-- less, as a place inside n bytes -/
theorem less_at (less : Int) (n : Nat) (hn : 1 ≤ n) (hn' : n ≤ 100000) : ∃ m : Nat, m < n ∧ (IntKind.u64.wrap less).tmod n = m ∧ IntKind.u64.wrap less % n = m := by
  have h0 : 0 ≤ IntKind.u64.wrap less := by rw [IntKind.wrap_u64]; omega
  obtain ⟨L, hL⟩ := Int.eq_ofNat_of_zero_le h0
  refine ⟨L % n, Nat.mod_lt _ (by omega), ?_, ?_⟩
  · rw [hL]; rfl
  · rw [hL]; rfl

set_option maxRecDepth 100000 in
set_option maxHeartbeats 4000000 in
theorem short_yes (x : Int) (t : ByteArray) (k : Nat) (n : Int) (a : ByteArray) (less : Int) (w : World)
    (ht : t.size ≤ 500) (ha : a.size ≤ 500) (hx1 : -9223372036854775808 ≤ x) (hx2 : x ≤ 9223372036854775807)
    (hn1 : -9223372036854775808 ≤ n) (hn2 : n ≤ 9223372036854775807) (hm : may k n a = true) :
    Calls Try.prog 5 #[.int .i64 x, .string t, val k n a, .int .i64 less] w fun e w' => e = .returned (.bool true) ∧ Below w.heap.size w w' := by
  have s1 := IS_le x hx1 hx2
  have s1' : 1 ≤ (IS x).size := by rw [IS_size]; exact enc_pos _
  have s2 : (TS t).size ≤ 510 := by rw [TS_size]; have := enc_len64 t.size (by omega); omega
  have s2' : 1 ≤ (TS t).size := by rw [TS_size]; have := enc_pos t.size; omega
  have s3 : (VS k n a).size ≤ 100 := by rw [VS_size]; exact (encV_le hn1 hn2 hm).2
  have s3' : 1 ≤ (VS k n a).size := by rw [VS_size]; exact (encV_le hn1 hn2 hm).1
  have n1 : ¬ IS x = ByteArray.empty := fun h => by rw [h] at s1'; exact absurd s1' (by decide)
  have n2 : ¬ TS t = ByteArray.empty := fun h => by rw [h] at s2'; exact absurd s2' (by decide)
  have n3 : ¬ VS k n a = ByteArray.empty := fun h => by rw [h] at s3'; exact absurd s3' (by decide)
  have q1 : (((IS x).size : Int) == 0) = false := by rw [beq_eq_false_iff_ne]; omega
  have q2 : (((TS t).size : Int) == 0) = false := by rw [beq_eq_false_iff_ne]; omega
  have q3 : (((VS k n a).size : Int) == 0) = false := by rw [beq_eq_false_iff_ne]; omega
  obtain ⟨m1, b1, c1, d1⟩ := less_at less (IS x).size s1' (by omega)
  obtain ⟨m2, b2, c2, d2⟩ := less_at less (TS t).size s2' (by omega)
  obtain ⟨m3, b3, c3, d3⟩ := less_at less (VS k n a).size s3' (by omega)
  go_enter Try.func5, Try.ntmps5
  go_wp2_with (first
      | (go_at_call 10; refine (awake_true _).mono ?_; rintro e w1 ⟨rfl, hB⟩; have hc := (bcell hB).1)
      | (go_at_call 15; refine (int0 _ _ (by omega) (by omega)).mono ?_; rintro e w1 ⟨rfl, hb⟩; replace hB := Below.step hB hb; replace hc := (bcell hB).1; clear hb)
      | (go_at_call 17; refine (text0 _ _ (by omega)).mono ?_; rintro e w1 ⟨rfl, hb⟩; replace hB := Below.step hB hb; replace hc := (bcell hB).1; clear hb)
      | (go_at_call 13; refine (value0_yes k n a _ hn1 hn2 hm).mono ?_; rintro e w1 ⟨rfl, hb⟩; replace hB := Below.step hB hb; replace hc := (bcell hB).1; clear hb)
      | (go_at_call 21; refine (open_any _ _).mono ?_; rintro e w2 ⟨rfl, rfl⟩)
      | (go_at_call 22; refine (sh_int x m1 _ hx1 hx2 b1).mono ?_; rintro e w1 ⟨rfl, hb⟩; replace hB := Below.step hB hb; replace hc := (bcell hB).1; clear hb)
      | (go_at_call 23; refine (sh_text t m2 _ ht b2).mono ?_; rintro e w1 ⟨rfl, hb⟩; replace hB := Below.step hB hb; replace hc := (bcell hB).1; clear hb)
      | (go_at_call 24; refine (sh_value k n a m3 _ hn1 hn2 hm b3).mono ?_; rintro e w1 ⟨rfl, hb⟩; replace hB := Below.step hB hb; replace hc := (bcell hB).1; clear hb))
  go_ret
  exact ⟨rfl, Below.step ((Below.refl _ _).alloc (Nat.le_refl _) _) (hB.alloc hB.size _)⟩
set_option maxRecDepth 100000 in
set_option maxHeartbeats 4000000 in
theorem short_no (x : Int) (t : ByteArray) (k : Nat) (n : Int) (a : ByteArray) (less : Int) (w : World)
    (ht : t.size ≤ 500) (ha : a.size ≤ 500) (hx1 : -9223372036854775808 ≤ x) (hx2 : x ≤ 9223372036854775807)
    (hn1 : -9223372036854775808 ≤ n) (hn2 : n ≤ 9223372036854775807) (hk : k < 256) (hm : may k n a = false) :
    Calls Try.prog 5 #[.int .i64 x, .string t, val k n a, .int .i64 less] w fun e w' => e = .returned (.bool true) ∧ Below w.heap.size w w' := by
  have s1 := IS_le x hx1 hx2
  have s1' : 1 ≤ (IS x).size := by rw [IS_size]; exact enc_pos _
  have s2 : (TS t).size ≤ 510 := by rw [TS_size]; have := enc_len64 t.size (by omega); omega
  have s2' : 1 ≤ (TS t).size := by rw [TS_size]; have := enc_pos t.size; omega
  have n1 : ¬ IS x = ByteArray.empty := fun h => by rw [h] at s1'; exact absurd s1' (by decide)
  have n2 : ¬ TS t = ByteArray.empty := fun h => by rw [h] at s2'; exact absurd s2' (by decide)
  have q1 : (((IS x).size : Int) == 0) = false := by rw [beq_eq_false_iff_ne]; omega
  have q2 : (((TS t).size : Int) == 0) = false := by rw [beq_eq_false_iff_ne]; omega
  obtain ⟨m1, b1, c1, d1⟩ := less_at less (IS x).size s1' (by omega)
  obtain ⟨m2, b2, c2, d2⟩ := less_at less (TS t).size s2' (by omega)
  go_enter Try.func5, Try.ntmps5
  go_wp2_with (first
      | (go_at_call 10; refine (awake_true _).mono ?_; rintro e w1 ⟨rfl, hB⟩; have hc := (bcell hB).1)
      | (go_at_call 15; refine (int0 _ _ (by omega) (by omega)).mono ?_; rintro e w1 ⟨rfl, hb⟩; replace hB := Below.step hB hb; replace hc := (bcell hB).1; clear hb)
      | (go_at_call 17; refine (text0 _ _ (by omega)).mono ?_; rintro e w1 ⟨rfl, hb⟩; replace hB := Below.step hB hb; replace hc := (bcell hB).1; clear hb)
      | (go_at_call 13; refine (value_no _ k n a _ hk hn1 hn2 (by omega) hm).mono ?_; rintro e w1 ⟨rfl, hb⟩; replace hB := Below.step hB hb; replace hc := (bcell hB).1; clear hb)
      | (go_at_call 21; refine (open_any _ _).mono ?_; rintro e w2 ⟨rfl, rfl⟩)
      | (go_at_call 22; refine (sh_int x m1 _ hx1 hx2 b1).mono ?_; rintro e w1 ⟨rfl, hb⟩; replace hB := Below.step hB hb; replace hc := (bcell hB).1; clear hb)
      | (go_at_call 23; refine (sh_text t m2 _ ht b2).mono ?_; rintro e w1 ⟨rfl, hb⟩; replace hB := Below.step hB hb; replace hc := (bcell hB).1; clear hb))
  go_ret
  exact ⟨rfl, Below.step ((Below.refl _ _).alloc (Nat.le_refl _) _) hB⟩
set_option maxRecDepth 100000 in
set_option maxHeartbeats 4000000 in
theorem short_big (x : Int) (t : ByteArray) (k : Nat) (n : Int) (a : ByteArray) (less : Int) (w : World)
    (ht : t.size ≤ 9223372036854775807) (ha : a.size ≤ 9223372036854775807) (h : 500 < t.size ∨ 500 < a.size) :
    Calls Try.prog 5 #[.int .i64 x, .string t, val k n a, .int .i64 less] w fun e w' => e = .returned (.bool true) ∧ Below w.heap.size w w' := by
  by_cases h1 : 500 < t.size
  · go_enter Try.func5, Try.ntmps5
    go_wp2_with (go_at_call 10; refine (awake_true _).mono ?_; rintro e w9 ⟨rfl, hb9⟩)
    go_ret
    exact ⟨rfl, Below.step ((Below.refl _ _).alloc (Nat.le_refl _) _) hb9⟩
  · have h4 : 500 < a.size := by omega
    go_enter Try.func5, Try.ntmps5
    go_wp2_with (go_at_call 10; refine (awake_true _).mono ?_; rintro e w9 ⟨rfl, hb9⟩)
    go_ret
    exact ⟨rfl, Below.step ((Below.refl _ _).alloc (Nat.le_refl _) _) hb9⟩
theorem short_all (x : Int) (t : ByteArray) (k : Nat) (n : Int) (a : ByteArray) (less : Int) (w : World)
    (ht : t.size ≤ 9223372036854775807) (ha : a.size ≤ 9223372036854775807) (hk : k < 256) (hx : -9223372036854775808 ≤ x ∧ x ≤ 9223372036854775807) (hn : -9223372036854775808 ≤ n ∧ n ≤ 9223372036854775807) :
    Calls Try.prog 5 #[.int .i64 x, .string t, val k n a, .int .i64 less] w fun e w' => e = .returned (.bool true) ∧ Below w.heap.size w w' := by
  by_cases hs : t.size ≤ 500 ∧ a.size ≤ 500
  · cases hv : may k n a
    · exact short_no x t k n a less w hs.1 hs.2 hx.1 hx.2 hn.1 hn.2 hk hv
    · exact short_yes x t k n a less w hs.1 hs.2 hx.1 hx.2 hn.1 hn.2 hv
  · exact short_big x t k n a less w ht ha (by omega)
end Go.Proofs.Ytlflkmigfggdjaa
