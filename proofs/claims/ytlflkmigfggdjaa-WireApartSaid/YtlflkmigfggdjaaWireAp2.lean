/- callboardlaw02.WireApart at unlike values. Conditions: none but that lengths are lengths. -/
import Derived.Test.YtlflkmigfggdjaaWireAp
namespace Go.Proofs.Ytlflkmigfggdjaa
open Go.RowKit Go.Ow Go.Wi

set_option maxRecDepth 100000 in
set_option maxHeartbeats 4000000 in
theorem apart_kind (x y : Int) (t u : ByteArray) (k : Nat) (n : Int) (a : ByteArray) (l : Nat) (m : Int) (b : ByteArray) (w : World)
    (ht : t.size ≤ 500) (hu : u.size ≤ 500) (ha : a.size ≤ 500) (hb : b.size ≤ 500) (hx1 : -9223372036854775808 ≤ x) (hx2 : x ≤ 9223372036854775807) (hy1 : -9223372036854775808 ≤ y) (hy2 : y ≤ 9223372036854775807)
    (hn1 : -9223372036854775808 ≤ n) (hn2 : n ≤ 9223372036854775807) (hm1 : -9223372036854775808 ≤ m) (hm2 : m ≤ 9223372036854775807) (hm : may k n a = true) (hm' : may l m b = true) (hd : k ≠ l) :
    Calls Try.prog 4 #[.int .i64 x, .int .i64 y, .string t, .string u, val k n a, val l m b] w fun e w' => e = .returned (.bool true) ∧ Below w.heap.size w w' := by
  have hf : far x < far y → ¬ (IS y).size < (IS x).size := fun h => by rw [IS_size, IS_size]; have := far_mono h; omega
  have HF := Lib.hid hf
  clear hf
  have HD := Lib.hid hd
  have e1 : ¬ ((k : Int) = (l : Int)) := by omega
  have e2 : ((k : Int) == (l : Int)) = false := by rw [beq_eq_false_iff_ne]; exact e1
  by_cases hfar : far x < far y
  all_goals
    have HL := Lib.hid (fun h => HF.out h)
    first
      | (have hlen := HF.out hfar)
      | skip
    go_enter Try.func4, Try.ntmps4
    go_wp2_with (first
      | (go_at_call 10; refine (awake_true _).mono ?_; rintro e w1 ⟨rfl, hB⟩; have hc := (bcell hB).1)
      | (go_at_call 15; refine (int0 _ _ (by omega) (by omega)).mono ?_; rintro e w1 ⟨rfl, hb⟩; replace hB := Below.step hB hb; replace hc := (bcell hB).1; clear hb)
      | (go_at_call 17; refine (text0 _ _ (by omega)).mono ?_; rintro e w1 ⟨rfl, hb⟩; replace hB := Below.step hB hb; replace hc := (bcell hB).1; clear hb)
      | (go_at_call 19; (with_reducible refine (beg_int_at _ _ _).mono ?_); rintro e w1 ⟨rfl, rfl⟩)
      | (go_at_call 19; (with_reducible refine (beg_text_at _ _ _).mono ?_); rintro e w1 ⟨rfl, rfl⟩)
      | (go_at_call 20; refine (far_any _ _ (by omega) (by omega)).mono ?_; rintro e w1 ⟨rfl, rfl⟩)
      | (go_at_call 13; (with_reducible refine (value0_yes k n a _ hn1 hn2 hm).mono ?_); rintro e w1 ⟨rfl, hb⟩; replace hB := Below.step hB hb; replace hc := (bcell hB).1; clear hb)
      | (go_at_call 13; (with_reducible refine (value0_yes l m b _ hm1 hm2 hm').mono ?_); rintro e w1 ⟨rfl, hb⟩; replace hB := Below.step hB hb; replace hc := (bcell hB).1; clear hb))
    go_quiet ((go_at_call 19; exact Calls.quiet_of_same (beg_val_at hm hm' (fun h => HD.out h.1) _)))
    go_wp2
    go_ret
    exact ⟨rfl, Below.step (((Below.refl _ _).alloc (Nat.le_refl _) _).alloc (by simp) _) (hB.trans (Below.drewN _ _))⟩

set_option maxRecDepth 100000 in
set_option maxHeartbeats 4000000 in
theorem apart_num (x y : Int) (t u : ByteArray) (k : Nat) (n : Int) (a : ByteArray) (m : Int) (b : ByteArray) (w : World)
    (ht : t.size ≤ 500) (hu : u.size ≤ 500) (ha : a.size ≤ 500) (hb : b.size ≤ 500) (hx1 : -9223372036854775808 ≤ x) (hx2 : x ≤ 9223372036854775807) (hy1 : -9223372036854775808 ≤ y) (hy2 : y ≤ 9223372036854775807)
    (hn1 : -9223372036854775808 ≤ n) (hn2 : n ≤ 9223372036854775807) (hm1 : -9223372036854775808 ≤ m) (hm2 : m ≤ 9223372036854775807) (hm : may k n a = true) (hm' : may k m b = true) (hd : n ≠ m) :
    Calls Try.prog 4 #[.int .i64 x, .int .i64 y, .string t, .string u, val k n a, val k m b] w fun e w' => e = .returned (.bool true) ∧ Below w.heap.size w w' := by
  have hf : far x < far y → ¬ (IS y).size < (IS x).size := fun h => by rw [IS_size, IS_size]; have := far_mono h; omega
  have HF := Lib.hid hf
  clear hf
  have HD := Lib.hid hd
  have e2 : (n == m) = false := by simpa using hd
  by_cases hfar : far x < far y
  all_goals
    have HL := Lib.hid (fun h => HF.out h)
    first
      | (have hlen := HF.out hfar)
      | skip
    go_enter Try.func4, Try.ntmps4
    go_wp2_with (first
      | (go_at_call 10; refine (awake_true _).mono ?_; rintro e w1 ⟨rfl, hB⟩; have hc := (bcell hB).1)
      | (go_at_call 15; refine (int0 _ _ (by omega) (by omega)).mono ?_; rintro e w1 ⟨rfl, hb⟩; replace hB := Below.step hB hb; replace hc := (bcell hB).1; clear hb)
      | (go_at_call 17; refine (text0 _ _ (by omega)).mono ?_; rintro e w1 ⟨rfl, hb⟩; replace hB := Below.step hB hb; replace hc := (bcell hB).1; clear hb)
      | (go_at_call 19; (with_reducible refine (beg_int_at _ _ _).mono ?_); rintro e w1 ⟨rfl, rfl⟩)
      | (go_at_call 19; (with_reducible refine (beg_text_at _ _ _).mono ?_); rintro e w1 ⟨rfl, rfl⟩)
      | (go_at_call 20; refine (far_any _ _ (by omega) (by omega)).mono ?_; rintro e w1 ⟨rfl, rfl⟩)
      | (go_at_call 13; (with_reducible refine (value0_yes k n a _ hn1 hn2 hm).mono ?_); rintro e w1 ⟨rfl, hb⟩; replace hB := Below.step hB hb; replace hc := (bcell hB).1; clear hb)
      | (go_at_call 13; (with_reducible refine (value0_yes k m b _ hm1 hm2 hm').mono ?_); rintro e w1 ⟨rfl, hb⟩; replace hB := Below.step hB hb; replace hc := (bcell hB).1; clear hb))
    go_quiet ((go_at_call 19; exact Calls.quiet_of_same (beg_val_at hm hm' (fun h => HD.out h.2.1) _)))
    go_wp2
    go_ret
    exact ⟨rfl, Below.step (((Below.refl _ _).alloc (Nat.le_refl _) _).alloc (by simp) _) (hB.trans (Below.drewN _ _))⟩

set_option maxRecDepth 100000 in
set_option maxHeartbeats 4000000 in
theorem apart_txt (x y : Int) (t u : ByteArray) (k : Nat) (n : Int) (a : ByteArray) (b : ByteArray) (w : World)
    (ht : t.size ≤ 500) (hu : u.size ≤ 500) (ha : a.size ≤ 500) (hb : b.size ≤ 500) (hx1 : -9223372036854775808 ≤ x) (hx2 : x ≤ 9223372036854775807) (hy1 : -9223372036854775808 ≤ y) (hy2 : y ≤ 9223372036854775807)
    (hn1 : -9223372036854775808 ≤ n) (hn2 : n ≤ 9223372036854775807) (hm : may k n a = true) (hm' : may k n b = true) (hd : a ≠ b) :
    Calls Try.prog 4 #[.int .i64 x, .int .i64 y, .string t, .string u, val k n a, val k n b] w fun e w' => e = .returned (.bool true) ∧ Below w.heap.size w w' := by
  have hf : far x < far y → ¬ (IS y).size < (IS x).size := fun h => by rw [IS_size, IS_size]; have := far_mono h; omega
  have HF := Lib.hid hf
  clear hf
  have HD := Lib.hid hd
  have e1 : ¬ a.toList = b.toList := by rw [ByteArray.toList_eq, ByteArray.toList_eq]; exact fun h => hd (eq_of_list h)
  have e2 : (a.toList == b.toList) = false := by rw [beq_eq_false_iff_ne]; exact e1
  clear hd
  by_cases hfar : far x < far y
  all_goals
    have HL := Lib.hid (fun h => HF.out h)
    first
      | (have hlen := HF.out hfar)
      | skip
    go_enter Try.func4, Try.ntmps4
    go_wp2_with (first
      | (go_at_call 10; refine (awake_true _).mono ?_; rintro e w1 ⟨rfl, hB⟩; have hc := (bcell hB).1)
      | (go_at_call 15; refine (int0 _ _ (by omega) (by omega)).mono ?_; rintro e w1 ⟨rfl, hb⟩; replace hB := Below.step hB hb; replace hc := (bcell hB).1; clear hb)
      | (go_at_call 17; refine (text0 _ _ (by omega)).mono ?_; rintro e w1 ⟨rfl, hb⟩; replace hB := Below.step hB hb; replace hc := (bcell hB).1; clear hb)
      | (go_at_call 19; (with_reducible refine (beg_int_at _ _ _).mono ?_); rintro e w1 ⟨rfl, rfl⟩)
      | (go_at_call 19; (with_reducible refine (beg_text_at _ _ _).mono ?_); rintro e w1 ⟨rfl, rfl⟩)
      | (go_at_call 20; refine (far_any _ _ (by omega) (by omega)).mono ?_; rintro e w1 ⟨rfl, rfl⟩)
      | (go_at_call 13; (with_reducible refine (value0_yes k n a _ hn1 hn2 hm).mono ?_); rintro e w1 ⟨rfl, hb⟩; replace hB := Below.step hB hb; replace hc := (bcell hB).1; clear hb)
      | (go_at_call 13; (with_reducible refine (value0_yes k n b _ hn1 hn2 hm').mono ?_); rintro e w1 ⟨rfl, hb⟩; replace hB := Below.step hB hb; replace hc := (bcell hB).1; clear hb))
    go_quiet ((go_at_call 19; exact Calls.quiet_of_same (beg_val_at hm hm' (fun h => HD.out h.2.2) _)))
    go_wp2
    go_ret
    exact ⟨rfl, Below.step (((Below.refl _ _).alloc (Nat.le_refl _) _).alloc (by simp) _) (hB.trans (Below.drewN _ _))⟩

end Go.Proofs.Ytlflkmigfggdjaa
