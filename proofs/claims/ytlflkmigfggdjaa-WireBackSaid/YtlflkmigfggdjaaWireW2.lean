/- What wire.may and the document's May return. Conditions: the text is not too long. -/
import Derived.Test.YtlflkmigfggdjaaWireW1
namespace Go.Proofs.Ytlflkmigfggdjaa
open Go.RowKit Go.Ow Go.Wi

abbrev val (k : Nat) (n : Int) (t : ByteArray) : Value := .agg #[.int .u8 k, .int .i64 n, .string t]
theorem ret_bool {a b : Bool} (h : a = b) : Ending.returned (.bool a) = .returned (.bool b) := by rw [h]
theorem bytes_ne {t : ByteArray} (h : t.size ≠ 0) : t.toList ≠ [] := by
  rw [ByteArray.toList_eq]
  intro e
  apply h
  show t.data.size = 0
  simpa using congrArg List.length e
theorem bytes_nil {t : ByteArray} (h : t.size = 0) : t = ⟨#[]⟩ := by
  apply ByteArray.ext
  exact Array.eq_empty_of_size_eq_zero h
theorem bytes_emp {t : ByteArray} (h : t.size ≠ 0) : t.toList.isEmpty = false := by
  have := bytes_ne h
  cases hh : t.toList with
  | nil => exact absurd hh this
  | cons a l => rfl
theorem ext_all (t : ByteArray) (k : Nat) (h : t.size ≤ k) : t.extract 0 k = t := by
  apply ByteArray.ext
  rw [ByteArray.data_extract]
  exact Array.extract_eq_self_of_le (by simpa using h)
theorem ext_ne (t : ByteArray) (k : Nat) (h : k < t.size) : ¬ t.toList = (t.extract 0 k).toList := by
  intro e
  rw [ByteArray.toList_eq, ByteArray.toList_eq] at e
  have := congrArg List.length e
  simp at this
  have h2 : t.data.size = t.size := rfl
  omega
theorem and_one (n : Int) : bits BinOp.and IntKind.i64 n 1 = n % 2 := by
  show IntKind.i64.wrap ((BitVec.ofInt 64 n &&& BitVec.ofInt 64 1).toNat : Int) = _
  have : (BitVec.ofInt 64 n &&& BitVec.ofInt 64 1).toNat = (n % 2).toNat := by
    rw [BitVec.toNat_and]
    show (BitVec.ofInt 64 n).toNat &&& 1 = _
    rw [Nat.and_one_is_mod, BitVec.toNat_ofInt]
    omega
  rw [this]
  simp [IntKind.wrap, IntKind.bits, IntKind.signed]
  omega

set_option maxHeartbeats 2000000 in
theorem may_any (k : Nat) (n : Int) (t : ByteArray) (w : World) (hk : k < 256) (h1 : -9223372036854775808 ≤ n) (h2 : n ≤ 9223372036854775807) (ht : t.size ≤ 90000) :
    Calls Try.prog 36 #[val k n t] w fun e w' => e = .returned (.bool (may k n t)) ∧ Below w.heap.size w w' := by
  have hb : ∀ (o1 o2 : Obj), Below w.heap.size w ((w.alloc o1).alloc o2) := fun o1 o2 => ((Below.refl _ _).alloc (Nat.le_refl _) _).alloc (by simp) _
  have HB := Lib.hid hb
  clear hb
  by_cases k1 : k = 1
  · subst k1
    by_cases t0 : t.size = 0
    · obtain rfl := bytes_nil t0
      go_enter Try.func36, Try.ntmps36
      go_wp2
      go_ret
      exact ⟨ret_bool (by first | exact (decide_eq_true (by omega)).symm | exact (decide_eq_false (by omega)).symm | exact decide_eq_decide.2 (by omega)), HB.out _ _⟩
    · have e1 := bytes_ne t0
      go_enter Try.func36, Try.ntmps36
      go_wp2
      go_ret
      exact ⟨ret_bool (by first | exact (decide_eq_true (by omega)).symm | exact (decide_eq_false (by omega)).symm | exact decide_eq_decide.2 (by omega)), HB.out _ _⟩
  by_cases k2 : k = 2
  · subst k2
    have e2 := and_one n
    by_cases t0 : t.size = 0
    · obtain rfl := bytes_nil t0
      by_cases n0 : n % 2 = n
      · go_enter Try.func36, Try.ntmps36
        go_wp2
        go_ret
        exact ⟨ret_bool (by first | exact (decide_eq_true (by omega)).symm | exact (decide_eq_false (by omega)).symm | exact decide_eq_decide.2 (by omega)), HB.out _ _⟩
      · go_enter Try.func36, Try.ntmps36
        go_wp2
        go_ret
        exact ⟨ret_bool (by first | exact (decide_eq_true (by omega)).symm | exact (decide_eq_false (by omega)).symm | exact decide_eq_decide.2 (by omega)), HB.out _ _⟩
    · have e1 := bytes_ne t0
      go_enter Try.func36, Try.ntmps36
      go_wp2
      all_goals
        go_ret
        exact ⟨ret_bool (by first | exact (decide_eq_true (by omega)).symm | exact (decide_eq_false (by omega)).symm | exact decide_eq_decide.2 (by omega)), HB.out _ _⟩
  by_cases k3 : k = 3
  · subst k3
    by_cases t0 : t.size ≤ 40
    · have e1 : t.extract 0 t.size = t := ext_all t _ (Nat.le_refl _)
      by_cases n0 : n = 0
      · subst n0
        go_enter Try.func36, Try.ntmps36
        go_wp2
        go_ret
        exact ⟨ret_bool (by first | exact (decide_eq_true (by omega)).symm | exact (decide_eq_false (by omega)).symm | exact decide_eq_decide.2 (by omega)), HB.out _ _⟩
      · go_enter Try.func36, Try.ntmps36
        go_wp2
        go_ret
        exact ⟨ret_bool (by first | exact (decide_eq_true (by omega)).symm | exact (decide_eq_false (by omega)).symm | exact decide_eq_decide.2 (by omega)), HB.out _ _⟩
    · have e3 := ext_ne t 40 (by omega)
      go_enter Try.func36, Try.ntmps36
      go_wp2
      all_goals
        go_ret
        exact ⟨ret_bool (by first | exact (decide_eq_true (by omega)).symm | exact (decide_eq_false (by omega)).symm | exact decide_eq_decide.2 (by omega)), HB.out _ _⟩
  · have k1' : ¬ ((k : Int) = 1) := by omega
    have k2' : ¬ ((k : Int) = 2) := by omega
    have k3' : ¬ ((k : Int) = 3) := by omega
    by_cases k0 : k = 0
    · subst k0
      by_cases t0 : t.size = 0
      · obtain rfl := bytes_nil t0
        by_cases n0 : n = 0
        · subst n0
          go_enter Try.func36, Try.ntmps36
          go_wp2
          go_ret
          exact ⟨ret_bool (by first | exact (decide_eq_true (by omega)).symm | exact (decide_eq_false (by omega)).symm | exact decide_eq_decide.2 (by omega)), HB.out _ _⟩
        · go_enter Try.func36, Try.ntmps36
          go_wp2
          go_ret
          exact ⟨ret_bool (by first | exact (decide_eq_true (by omega)).symm | exact (decide_eq_false (by omega)).symm | exact decide_eq_decide.2 (by omega)), HB.out _ _⟩
      · have e1 := bytes_ne t0
        go_enter Try.func36, Try.ntmps36
        go_wp2
        all_goals
          go_ret
          exact ⟨ret_bool (by first | exact (decide_eq_true (by omega)).symm | exact (decide_eq_false (by omega)).symm | exact decide_eq_decide.2 (by omega)), HB.out _ _⟩
    · have k4 : decide ((k : Int) ≤ 3) = false := by simp; omega
      go_enter Try.func36, Try.ntmps36
      go_wp2
      all_goals
        go_ret
        exact ⟨ret_bool (by first | exact (decide_eq_true (by omega)).symm | exact (decide_eq_false (by omega)).symm | exact decide_eq_decide.2 (by omega)), HB.out _ _⟩

set_option maxHeartbeats 2000000 in
theorem rmay_any (k : Nat) (n : Int) (t : ByteArray) (w : World) (hk : k < 256) (h1 : -9223372036854775808 ≤ n) (h2 : n ≤ 9223372036854775807) (ht : t.size ≤ 90000) :
    Calls Try.prog 37 #[val k n t] w fun e w' => e = .returned (.bool (may k n t)) ∧ Below w.heap.size w w' := by
  have hb : ∀ (o1 : Obj), Below w.heap.size w (w.alloc o1) := fun o1 => ((Below.refl _ _).alloc (Nat.le_refl _) _)
  have HB := Lib.hid hb
  clear hb
  by_cases k4 : 4 ≤ k
  · have k0' : ¬ ((k : Int) = 0) := by omega
    have k1' : ¬ ((k : Int) = 1) := by omega
    have k2' : ¬ ((k : Int) = 2) := by omega
    have k3' : ¬ ((k : Int) = 3) := by omega
    go_enter Try.func37, Try.ntmps37
    go_wp2
    all_goals
      go_ret
      exact ⟨ret_bool (by first | exact (decide_eq_true (by omega)).symm | exact (decide_eq_false (by omega)).symm | exact decide_eq_decide.2 (by omega)), HB.out _⟩
  have hk : k = 0 ∨ k = 1 ∨ k = 2 ∨ k = 3 := by omega
  clear k4
  by_cases t0 : t.size = 0
  · obtain rfl := bytes_nil t0
    rcases hk with rfl | rfl | rfl | rfl
    all_goals
      by_cases n0 : n = 0
      · subst n0
        go_enter Try.func37, Try.ntmps37
        go_wp2
        all_goals
          go_ret
          exact ⟨ret_bool (by first | exact (decide_eq_true (by omega)).symm | exact (decide_eq_false (by omega)).symm | exact decide_eq_decide.2 (by omega)), HB.out _⟩
      · by_cases n1 : n = 1
        · subst n1
          go_enter Try.func37, Try.ntmps37
          go_wp2
          all_goals
            go_ret
            exact ⟨ret_bool (by first | exact (decide_eq_true (by omega)).symm | exact (decide_eq_false (by omega)).symm | exact decide_eq_decide.2 (by omega)), HB.out _⟩
        · have n0' : (n == 0) = false := by simpa using n0
          have n1' : (n == 1) = false := by simpa using n1
          go_enter Try.func37, Try.ntmps37
          go_wp2
          all_goals
            go_ret
            exact ⟨ret_bool (by first | exact (decide_eq_true (by omega)).symm | exact (decide_eq_false (by omega)).symm | exact decide_eq_decide.2 (by omega)), HB.out _⟩
  · have e1 := bytes_ne t0
    have e2 := bytes_emp t0
    rcases hk with rfl | rfl | rfl | rfl
    all_goals
      by_cases n0 : n = 0
      · subst n0
        by_cases t4 : t.size ≤ 40
        all_goals
          go_enter Try.func37, Try.ntmps37
          go_wp2
          all_goals
            go_ret
            exact ⟨ret_bool (by first | exact (decide_eq_true (by omega)).symm | exact (decide_eq_false (by omega)).symm | exact decide_eq_decide.2 (by omega)), HB.out _⟩
      · by_cases n1 : n = 1
        · subst n1
          go_enter Try.func37, Try.ntmps37
          go_wp2
          all_goals
            go_ret
            exact ⟨ret_bool (by first | exact (decide_eq_true (by omega)).symm | exact (decide_eq_false (by omega)).symm | exact decide_eq_decide.2 (by omega)), HB.out _⟩
        · have n0' : (n == 0) = false := by simpa using n0
          have n1' : (n == 1) = false := by simpa using n1
          go_enter Try.func37, Try.ntmps37
          go_wp2
          all_goals
            go_ret
            exact ⟨ret_bool (by first | exact (decide_eq_true (by omega)).symm | exact (decide_eq_false (by omega)).symm | exact decide_eq_decide.2 (by omega)), HB.out _⟩
end Go.Proofs.Ytlflkmigfggdjaa
