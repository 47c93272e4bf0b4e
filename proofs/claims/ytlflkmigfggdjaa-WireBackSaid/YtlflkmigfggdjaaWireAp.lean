/- callboardlaw02.WireApart returns true at every input. Conditions: none but that lengths are lengths. -/
import Derived.Test.YtlflkmigfggdjaaWireW4
import Derived.Test.YtlflkmigfggdjaaWireMath2
import Derived.Test.YtlflkmigfggdjaaWireAwake
import Derived.Deep.QuietTactic
import Derived.BigQuiet
namespace Go.Proofs.Ytlflkmigfggdjaa
open Go.RowKit Go.Ow Go.Wi

def begB (a b : ByteArray) : Bool := a.data.toList.isPrefixOf b.data.toList

theorem ext_prefix (a b : ByteArray) : ((b.extract 0 a.size).toList == a.toList) = begB a b := by
  unfold begB
  rw [Bool.eq_iff_iff, List.isPrefixOf_iff_prefix, ByteArray.toList_eq, ByteArray.toList_eq, beq_iff_eq, ByteArray.data_extract, Array.toList_extract, List.prefix_iff_eq_take]
  have e : a.data.toList.length = a.size := Array.length_toList
  rw [e]
  simp only [List.extract_eq_take_drop, Nat.sub_zero, List.drop_zero]
  exact eq_comm
theorem long_prefix (a b : ByteArray) (h : b.size < a.size) : begB a b = false := by
  unfold begB
  rw [Bool.eq_false_iff, Ne, List.isPrefixOf_iff_prefix]
  intro hp
  have := hp.length_le
  have e : a.data.toList.length = a.size := Array.length_toList
  have e' : b.data.toList.length = b.size := Array.length_toList
  omega

theorem begins_any (a b : ByteArray) (w : World) : Calls Try.prog 19 #[.string a, .string b] w fun e w' => e = .returned (.bool (begB a b)) ∧ w' = w := by
  by_cases h : a.size ≤ b.size
  · go_enter Try.func19, Try.ntmps19
    go_wp2
    go_ret
    exact ⟨ret_bool (ext_prefix a b), rfl⟩
  · have h' := long_prefix a b (by omega)
    go_enter Try.func19, Try.ntmps19
    go_wp2
    go_ret
    exact ⟨ret_bool h'.symm, rfl⟩

theorem ret_int {k : IntKind} {a b : Int} (h : a = b) : Ending.returned (.int k a) = .returned (.int k b) := by rw [h]
theorem far_any (x : Int) (w : World) (h1 : -9223372036854775808 ≤ x) (h2 : x ≤ 9223372036854775807) : Calls Try.prog 20 #[.int .i64 x] w fun e w' => e = .returned (.int .u64 (far x)) ∧ w = w' := by
  by_cases h : x < 0
  · go_enter Try.func20, Try.ntmps20
    go_wp2
    go_ret
    exact ⟨ret_int (by unfold far; omega), rfl⟩
  · go_enter Try.func20, Try.ntmps20
    go_wp2
    go_ret
    exact ⟨ret_int (by unfold far; omega), rfl⟩

/-- The bytes of one thing, behind none. -/
def IS (x : Int) : ByteArray := cat ⟨#[]⟩ (enc (zig x))
def TS (t : ByteArray) : ByteArray := cat ⟨#[]⟩ (enc t.size ++ t.data.toList)
def VS (k : Nat) (n : Int) (t : ByteArray) : ByteArray := cat ⟨#[]⟩ (encV k n t)
theorem cat0 (l : List UInt8) : (cat ⟨#[]⟩ l).data.toList = l := by rw [cat_list]; rfl
theorem IS_beg (x y : Int) : begB (IS x) (IS y) = (x == y) := by unfold begB IS; rw [cat0, cat0]; exact beg_int x y
theorem TS_beg (t u : ByteArray) : begB (TS t) (TS u) = (t.toList == u.toList) := by
  unfold begB TS
  rw [cat0, cat0, ByteArray.toList_eq, ByteArray.toList_eq]
  exact beg_text t.data.toList u.data.toList
theorem VS_same (k : Nat) (n : Int) (t : ByteArray) : begB (VS k n t) (VS k n t) = true := by unfold begB; rw [List.isPrefixOf_iff_prefix]; exact List.prefix_refl _
theorem VS_beg {k l : Nat} {n m : Int} {t u : ByteArray} (h1 : may k n t = true) (h2 : may l m u = true) (h : ¬ (k = l ∧ n = m ∧ t = u)) : begB (VS k n t) (VS l m u) = false := by
  unfold begB VS
  rw [cat0, cat0, Bool.eq_false_iff, Ne, List.isPrefixOf_iff_prefix]
  rintro ⟨r, e⟩
  have := encV_parts h1 h2 r [] (by simpa using e)
  exact h ⟨this.1, this.2.1, this.2.2.1⟩
theorem IS_size (x : Int) : (IS x).size = (enc (zig x)).length := by
  unfold IS
  rw [cat_size]
  show 0 + _ = _
  omega
theorem IS_le (x : Int) (h1 : -9223372036854775808 ≤ x) (h2 : x ≤ 9223372036854775807) : (IS x).size ≤ 10 := by rw [IS_size]; exact enc_len64 _ (zig_lt x h1 h2)

theorem int0 (x : Int) (w : World) (h1 : -9223372036854775808 ≤ x) (h2 : x ≤ 9223372036854775807) :
    Calls Try.prog 15 #[.string ⟨#[]⟩, .int .i64 x] w fun e w' => e = .returned (.string (IS x)) ∧ Below w.heap.size w w' := int_any ⟨#[]⟩ x w (by decide) h1 h2
theorem text0 (t : ByteArray) (w : World) (ht : t.size ≤ 90000) :
    Calls Try.prog 17 #[.string ⟨#[]⟩, .string t] w fun e w' => e = .returned (.string (TS t)) ∧ Below w.heap.size w w' := text_any ⟨#[]⟩ t w (by decide) ht
theorem value0_yes (k : Nat) (n : Int) (t : ByteArray) (w : World) (h1 : -9223372036854775808 ≤ n) (h2 : n ≤ 9223372036854775807) (hm : may k n t = true) :
    Calls Try.prog 13 #[.string ⟨#[]⟩, val k n t] w fun e w' => e = .returned (.tuple #[.string (VS k n t), .int .i64 0]) ∧ Below w.heap.size w w' := value_yes ⟨#[]⟩ k n t w (by decide) h1 h2 hm
theorem Below.step {w a b : World} (h : Below w.heap.size w a) (k : Below a.heap.size a b) : Below w.heap.size w b := h.trans (k.mono h.size)

theorem beg_int_at (x y : Int) (w : World) : Calls Try.prog 19 #[.string (IS x), .string (IS y)] w fun e w' => e = .returned (.bool (x == y)) ∧ w = w' := by
  refine (begins_any _ _ w).mono ?_
  rintro e w' ⟨rfl, rfl⟩
  exact ⟨ret_bool (IS_beg x y), rfl⟩
theorem beg_text_at (x y : ByteArray) (w : World) : Calls Try.prog 19 #[.string (TS x), .string (TS y)] w fun e w' => e = .returned (.bool (x.toList == y.toList)) ∧ w = w' := by
  refine (begins_any _ _ w).mono ?_
  rintro e w' ⟨rfl, rfl⟩
  exact ⟨ret_bool (TS_beg x y), rfl⟩

theorem Below.drewN {w : World} (B n : Nat) : Below B w (w.drewN n) := ⟨rfl, rfl, rfl, Nat.le_refl _, fun _ _ => rfl⟩
theorem beg_val_at {k l : Nat} {n m : Int} {t u : ByteArray} (h1 : may k n t = true) (h2 : may l m u = true) (h : ¬ (k = l ∧ n = m ∧ t = u)) (w : World) : Calls Try.prog 19 #[.string (VS k n t), .string (VS l m u)] w fun e w' => e = .returned (.bool false) ∧ w' = w := by
  refine (begins_any _ _ w).mono ?_
  rintro e w' ⟨rfl, rfl⟩
  exact ⟨ret_bool (VS_beg h1 h2 h), rfl⟩
theorem beg_same_at (k : Nat) (n : Int) (t : ByteArray) (w : World) : Calls Try.prog 19 #[.string (VS k n t), .string (VS k n t)] w fun e w' => e = .returned (.bool true) ∧ w' = w := by
  refine (begins_any _ _ w).mono ?_
  rintro e w' ⟨rfl, rfl⟩
  exact ⟨ret_bool (VS_same k n t), rfl⟩

set_option maxRecDepth 100000 in
set_option maxHeartbeats 4000000 in
theorem apart_no (x y : Int) (t u : ByteArray) (k : Nat) (n : Int) (a : ByteArray) (l : Nat) (m : Int) (b : ByteArray) (w : World)
    (ht : t.size ≤ 500) (hu : u.size ≤ 500) (ha : a.size ≤ 500) (hb : b.size ≤ 500) (hk : k < 256) (hl : l < 256) (hx1 : -9223372036854775808 ≤ x) (hx2 : x ≤ 9223372036854775807) (hy1 : -9223372036854775808 ≤ y) (hy2 : y ≤ 9223372036854775807)
    (hn1 : -9223372036854775808 ≤ n) (hn2 : n ≤ 9223372036854775807) (hm1 : -9223372036854775808 ≤ m) (hm2 : m ≤ 9223372036854775807) (hm : may k n a = false) :
    Calls Try.prog 4 #[.int .i64 x, .int .i64 y, .string t, .string u, val k n a, val l m b] w fun e w' => e = .returned (.bool true) ∧ Below w.heap.size w w' := by
  have hf : far x < far y → ¬ (IS y).size < (IS x).size := fun h => by rw [IS_size, IS_size]; have := far_mono h; omega
  have HF := Lib.hid hf
  clear hf
  by_cases hfar : far x < far y
  all_goals
    have HL := Lib.hid (fun h => HF.out h)
    first
      | (have hlen := HF.out hfar)
      | skip
    go_enter Try.func4, Try.ntmps4
    go_wp2_with (first
      | (go_at_call 10; refine (awake_true _).mono ?_; rintro e w1 ⟨rfl, hB⟩; have hc := (bcell hB).1)
      | (go_at_call 15; refine (int0 _ _ (by omega) (by omega)).mono ?_; rintro e w1 ⟨rfl, hb⟩; replace hB := Below.step hB hb; replace hc := (bcell hB).1; clear hb)
      | (go_at_call 17; refine (text0 _ _ (by omega)).mono ?_; rintro e w1 ⟨rfl, hb⟩; replace hB := Below.step hB hb; replace hc := (bcell hB).1; clear hb)
      | (go_at_call 19; (with_reducible refine (beg_int_at _ _ _).mono ?_); rintro e w1 ⟨rfl, rfl⟩)
      | (go_at_call 19; (with_reducible refine (beg_text_at _ _ _).mono ?_); rintro e w1 ⟨rfl, rfl⟩)
      | (go_at_call 20; refine (far_any _ _ (by omega) (by omega)).mono ?_; rintro e w1 ⟨rfl, rfl⟩)
      | (go_at_call 13; (with_reducible refine (value_no _ k n a _ hk hn1 hn2 (by omega) hm).mono ?_); rintro e w1 ⟨rfl, hb⟩; replace hB := Below.step hB hb; replace hc := (bcell hB).1; clear hb)
      | (go_at_call 13; (with_reducible refine (value_all _ l m b _ (by decide) hl hm1 hm2 (by omega)).mono ?_); rintro e w1 ⟨rfl, hb⟩; replace hB := Below.step hB hb; replace hc := (bcell hB).1; clear hb))
    go_quiet (fail)
    go_wp2
    go_ret
    exact ⟨rfl, Below.step (((Below.refl _ _).alloc (Nat.le_refl _) _).alloc (by simp) _) (hB.trans (Below.drewN _ _))⟩

set_option maxRecDepth 100000 in
set_option maxHeartbeats 4000000 in
theorem apart_yes_no (x y : Int) (t u : ByteArray) (k : Nat) (n : Int) (a : ByteArray) (l : Nat) (m : Int) (b : ByteArray) (w : World)
    (ht : t.size ≤ 500) (hu : u.size ≤ 500) (ha : a.size ≤ 500) (hb : b.size ≤ 500) (hl : l < 256) (hx1 : -9223372036854775808 ≤ x) (hx2 : x ≤ 9223372036854775807) (hy1 : -9223372036854775808 ≤ y) (hy2 : y ≤ 9223372036854775807)
    (hn1 : -9223372036854775808 ≤ n) (hn2 : n ≤ 9223372036854775807) (hm1 : -9223372036854775808 ≤ m) (hm2 : m ≤ 9223372036854775807) (hm : may k n a = true) (hm' : may l m b = false) :
    Calls Try.prog 4 #[.int .i64 x, .int .i64 y, .string t, .string u, val k n a, val l m b] w fun e w' => e = .returned (.bool true) ∧ Below w.heap.size w w' := by
  have hf : far x < far y → ¬ (IS y).size < (IS x).size := fun h => by rw [IS_size, IS_size]; have := far_mono h; omega
  have HF := Lib.hid hf
  clear hf
  by_cases hfar : far x < far y
  all_goals
    have HL := Lib.hid (fun h => HF.out h)
    first
      | (have hlen := HF.out hfar)
      | skip
    go_enter Try.func4, Try.ntmps4
    go_wp2_with (first
      | (go_at_call 10; refine (awake_true _).mono ?_; rintro e w1 ⟨rfl, hB⟩; have hc := (bcell hB).1)
      | (go_at_call 15; refine (int0 _ _ (by omega) (by omega)).mono ?_; rintro e w1 ⟨rfl, hb⟩; replace hB := Below.step hB hb; replace hc := (bcell hB).1; clear hb)
      | (go_at_call 17; refine (text0 _ _ (by omega)).mono ?_; rintro e w1 ⟨rfl, hb⟩; replace hB := Below.step hB hb; replace hc := (bcell hB).1; clear hb)
      | (go_at_call 19; (with_reducible refine (beg_int_at _ _ _).mono ?_); rintro e w1 ⟨rfl, rfl⟩)
      | (go_at_call 19; (with_reducible refine (beg_text_at _ _ _).mono ?_); rintro e w1 ⟨rfl, rfl⟩)
      | (go_at_call 20; refine (far_any _ _ (by omega) (by omega)).mono ?_; rintro e w1 ⟨rfl, rfl⟩)
      | (go_at_call 13; (with_reducible refine (value0_yes k n a _ hn1 hn2 hm).mono ?_); rintro e w1 ⟨rfl, hb⟩; replace hB := Below.step hB hb; replace hc := (bcell hB).1; clear hb)
      | (go_at_call 13; (with_reducible refine (value_no _ l m b _ hl hm1 hm2 (by omega) hm').mono ?_); rintro e w1 ⟨rfl, hb⟩; replace hB := Below.step hB hb; replace hc := (bcell hB).1; clear hb))
    go_quiet (fail)
    go_wp2
    go_ret
    exact ⟨rfl, Below.step (((Below.refl _ _).alloc (Nat.le_refl _) _).alloc (by simp) _) (hB.trans (Below.drewN _ _))⟩

set_option maxRecDepth 100000 in
set_option maxHeartbeats 4000000 in
theorem apart_same (x y : Int) (t u : ByteArray) (k : Nat) (n : Int) (a : ByteArray) (w : World)
    (ht : t.size ≤ 500) (hu : u.size ≤ 500) (ha : a.size ≤ 500) (hx1 : -9223372036854775808 ≤ x) (hx2 : x ≤ 9223372036854775807) (hy1 : -9223372036854775808 ≤ y) (hy2 : y ≤ 9223372036854775807)
    (hn1 : -9223372036854775808 ≤ n) (hn2 : n ≤ 9223372036854775807) (hm : may k n a = true) :
    Calls Try.prog 4 #[.int .i64 x, .int .i64 y, .string t, .string u, val k n a, val k n a] w fun e w' => e = .returned (.bool true) ∧ Below w.heap.size w w' := by
  have hf : far x < far y → ¬ (IS y).size < (IS x).size := fun h => by rw [IS_size, IS_size]; have := far_mono h; omega
  have HF := Lib.hid hf
  clear hf
  by_cases hfar : far x < far y
  all_goals
    have HL := Lib.hid (fun h => HF.out h)
    first
      | (have hlen := HF.out hfar)
      | skip
    go_enter Try.func4, Try.ntmps4
    go_wp2_with (first
      | (go_at_call 10; refine (awake_true _).mono ?_; rintro e w1 ⟨rfl, hB⟩; have hc := (bcell hB).1)
      | (go_at_call 15; refine (int0 _ _ (by omega) (by omega)).mono ?_; rintro e w1 ⟨rfl, hb⟩; replace hB := Below.step hB hb; replace hc := (bcell hB).1; clear hb)
      | (go_at_call 17; refine (text0 _ _ (by omega)).mono ?_; rintro e w1 ⟨rfl, hb⟩; replace hB := Below.step hB hb; replace hc := (bcell hB).1; clear hb)
      | (go_at_call 19; (with_reducible refine (beg_int_at _ _ _).mono ?_); rintro e w1 ⟨rfl, rfl⟩)
      | (go_at_call 19; (with_reducible refine (beg_text_at _ _ _).mono ?_); rintro e w1 ⟨rfl, rfl⟩)
      | (go_at_call 20; refine (far_any _ _ (by omega) (by omega)).mono ?_; rintro e w1 ⟨rfl, rfl⟩)
      | (go_at_call 13; (with_reducible refine (value0_yes k n a _ hn1 hn2 hm).mono ?_); rintro e w1 ⟨rfl, hb⟩; replace hB := Below.step hB hb; replace hc := (bcell hB).1; clear hb))
    go_quiet ((go_at_call 19; exact Calls.quiet_of_same (beg_same_at _ _ _ _)))
    go_wp2
    go_ret
    exact ⟨rfl, Below.step (((Below.refl _ _).alloc (Nat.le_refl _) _).alloc (by simp) _) (hB.trans (Below.drewN _ _))⟩

end Go.Proofs.Ytlflkmigfggdjaa
