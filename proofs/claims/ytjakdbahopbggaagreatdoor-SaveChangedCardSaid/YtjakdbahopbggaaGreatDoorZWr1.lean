/- Layer 2's bytes, in plain Lean: a number in groups of seven bits, and bytes behind bytes. Conditions: none. -/
import Derived.Test.YtjakdbahopbggaaGreatDoorZOwn
import Derived.Test.YtjakdbahopbggaaGreatDoorProg
import Derived.WalkKit
import Derived.Deep.LoopGhost
import Derived.Outline
import Derived.WalkLawsBesides
import Derived.WalkSpells
import Derived.Lib.Hide
namespace Go.Wi

/-- bytes behind bytes -/
def cat (s : ByteArray) (l : List UInt8) : ByteArray := ⟨s.data ++ l.toArray⟩
theorem cat_cat (s : ByteArray) (a b : List UInt8) : cat (cat s a) b = cat s (a ++ b) := by simp [cat, Array.append_assoc]
theorem cat_nil (s : ByteArray) : cat s [] = s := by simp [cat]
theorem cat_list (s : ByteArray) (l : List UInt8) : (cat s l).data.toList = s.data.toList ++ l := by simp [cat]
theorem cat_size (s : ByteArray) (l : List UInt8) : (cat s l).size = s.size + l.length := by
  show (s.data ++ l.toArray).size = _
  simp
theorem mk_cat (s : ByteArray) (l : List UInt8) : (⟨(s.data.toList ++ l).toArray⟩ : ByteArray) = cat s l := by simp [cat]
theorem append_cat (s t : ByteArray) : s ++ t = cat s t.data.toList := by
  apply ByteArray.ext
  simp [cat]

/-- a number's bytes -/
def enc (n : Nat) : List UInt8 := if n < 128 then [UInt8.ofNat n] else UInt8.ofNat (n % 128 + 128) :: enc (n / 128)
termination_by n
decreasing_by omega

theorem enc_small {n : Nat} (h : n < 128) : enc n = [UInt8.ofNat n] := by rw [enc, if_pos h]
theorem enc_more {n : Nat} (h : 128 ≤ n) : enc n = UInt8.ofNat (n % 128 + 128) :: enc (n / 128) := by rw [enc, if_neg (by omega)]

theorem enc_len (k n : Nat) (h : n < 128 ^ (k + 1)) : (enc n).length ≤ k + 1 := by
  induction k generalizing n with
  | zero => rw [enc_small (by simpa using h)]; simp
  | succ k ih =>
    by_cases hn : n < 128
    · rw [enc_small hn]; simp
    · rw [enc_more (by omega)]
      have : n / 128 < 128 ^ (k + 1) := by
        rw [Nat.div_lt_iff_lt_mul (by decide), ← Nat.pow_succ]; exact h
      have := ih _ this
      simp; omega
theorem enc_len64 (n : Nat) (h : n < 18446744073709551616) : (enc n).length ≤ 10 := enc_len 9 n (Nat.lt_of_lt_of_le h (by decide))
theorem enc_pos (n : Nat) : 1 ≤ (enc n).length := by
  by_cases h : n < 128
  · simp [enc_small h]
  · rw [enc_more (by omega)]; simp

/-- a whole number as a number -/
def zig (x : Int) : Nat := if 0 ≤ x then (2 * x).toNat else (-2 * x - 1).toNat
theorem zig_lt (x : Int) (h1 : -9223372036854775808 ≤ x) (h2 : x ≤ 9223372036854775807) : zig x < 18446744073709551616 := by unfold zig; split <;> omega
theorem zig_inj {x y : Int} (h : zig x = zig y) : x = y := by unfold zig at h; split at h <;> split at h <;> omega

/-- may a value be told -/
def may (k : Nat) (n : Int) (t : ByteArray) : Bool :=
  decide ((k = 0 ∧ n = 0 ∧ t.size = 0) ∨ (k = 1 ∧ t.size = 0) ∨ (k = 2 ∧ (n = 0 ∨ n = 1) ∧ t.size = 0) ∨ (k = 3 ∧ n = 0 ∧ t.size ≤ 40))
/-- a value's bytes -/
def encV (k : Nat) (n : Int) (t : ByteArray) : List UInt8 :=
  enc k ++ if k = 1 then enc (zig n) else if k = 2 then enc n.toNat else if k = 3 then enc t.size ++ t.data.toList else []
end Go.Wi

/- What wire.put and the document's bytes return: the bytes, then the number's. Conditions: the bytes are not too many. -/
namespace Go.Proofs.YtjakdbahopbggaaGreatDoor.Wr
open Go.RowKit Go.Ow Go.Wi

theorem info5 : (Tryz.prog.info? 5).map (fun i => (i.zero, i.size, i.bytes)) = some (some (.int .u8 0), 1, 1) := by kernel_rfl

/-- The bytes as cells. -/
def cellsOf (l : List UInt8) : List Value := l.map fun b => Value.int .u8 b.toNat
theorem cellsOf_snoc (l : List UInt8) (b : UInt8) (n : Int) (h : n = b.toNat) : cellsOf l ++ [Value.int .u8 n] = cellsOf (l ++ [b]) := by subst h; simp [cellsOf]
theorem cellsOf_len (l : List UInt8) : (cellsOf l).length = l.length := by simp [cellsOf]

theorem ret_str {a b : ByteArray} (h : a = b) : Ending.returned (.string a) = .returned (.string b) := by rw [h]
theorem one_byte (w : World) (x : Int) (b : UInt8) (hx : x = b.toNat) : (convert 99 9 (.slice (some ⟨w.heap.size, 0, none⟩) 1 1)).run Tryz.prog (w.alloc (.cells #[.int .u8 x] 5)) = .ok (.string ⟨#[b]⟩) (w.alloc (.cells #[.int .u8 x] 5)) := by
  subst hx
  refine run_convert_bytes_back (P := Tryz.prog) _ 99 9 5 ⟨w.heap.size, 0, none⟩ 1 [b] Tryz.underlying99 Tryz.underlying5 Tryz.underlying9 (fun j hj => ?_)
  obtain rfl : j = 0 := by simpa using hj
  rw [Addr.add_lit]
  simp
theorem or128 (k : Nat) : bits BinOp.or IntKind.u8 (↑k % 256) 128 = ((UInt8.ofNat (k % 128 + 128)).toNat : Int) := by
  have h : ∀ m : Fin 256, (m.val ||| 128) = m.val % 128 + 128 := by decide +kernel
  have := h ⟨k % 256, by omega⟩
  have e := u8_or_nat (k % 256) 128 (by omega) (by decide)
  have e1 : ((k % 256 : Nat) : Int) = (k : Int) % 256 := by omega
  rw [e1] at e
  have e2 : ((128 : Nat) : Int) = 128 := rfl
  rw [e2] at e
  rw [e, this]
  simp
  omega

set_option maxHeartbeats 1000000 in
set_option maxRecDepth 100000 in
theorem put_any (s : ByteArray) (n : Nat) (w : World) (hs : s.size ≤ 1000000) (hn : n < 18446744073709551616) :
    Calls Tryz.prog 67 #[.string s, .int .u64 n] w fun e w' => e = .returned (.string (cat s (enc n))) ∧ Below w.heap.size w w' := by
  obtain ⟨v, w1, hconv, hown, hbel, hlt⟩ := owns_of_string (P := Tryz.prog) w 9 99 5 s Tryz.underlying9 Tryz.underlying99 Tryz.underlying5 (by unfold maxLen; omega)
  obtain ⟨i0, hi, hz0, hz1, hz2⟩ := info_parts info5
  have HO : Hid (Owns w1 w.heap.size 5 v (cellsOf s.data.toList)) := hown
  clear hown
  go_enter Tryz.func67, Tryz.ntmps67
  go_wp2
  go_loopg [1, 5] n (fun k N V wr => ∃ l : List UInt8, l ++ enc k = enc n ∧ k ≤ n ∧ N = .int .u64 k ∧ Owns wr w.heap.size 5 V (cellsOf (s.data.toList ++ l)) ∧ Below w.heap.size w wr ∧ w.heap.size < wr.heap.size)
  case atStart => exact ⟨[], rfl, Nat.le_refl _, rfl, by simpa using HO.out, hbel, hlt⟩
  case round =>
    obtain ⟨l, hl, hk, rfl, ho, hb, hz⟩ := hrel
    have HL := Lib.hid hl
    clear hl
    have hlen : l.length + (enc gk).length ≤ 10 := by have := enc_len64 n hn; rw [← HL.out] at this; simpa using this
    have hep := enc_pos gk
    have hbase : w.heap.size ≤ wr.heap.size := hb.size
    by_cases h128 : 128 ≤ gk
    · have HOR := Lib.hid (or128 gk)
      go_wp2_with (at_builtin; refine wpList_append _ rfl (.tmp 12) (.tmp 16) 99 rfl i0 (.int .u8 0) 1 Tryz.underlying99 hi hz0 hz1 hz2 rfl rfl (ho.alloc _) ⟨wr.heap.size, 0, none⟩ 1 (.int .u8 (bits BinOp.or IntKind.u8 (↑gk % 256) 128)) rfl ?c1 rfl rfl ?c2 ?c3 ?c4 ?_)
      case c1 => simp
      case c2 => rw [cellsOf_len]; simp; unfold maxLen; omega
      case c3 => rw [cellsOf_len]; simp; omega
      case c4 => simp; omega
      intro v' w' ho' hb'
      rw [cellsOf_snoc _ _ _ HOR.out] at ho'
      clear HOR
      have hz' : w.heap.size < w'.heap.size := by have := hb'.size; simp at this; omega
      have hbw : Below w.heap.size w w' := (hb.alloc hbase _).trans hb'
      clear hb'
      go_wp2
      go_roundg (gk / 128)
      case measure => omega
      case rel => exact ⟨l ++ [UInt8.ofNat (gk % 128 + 128)], by rw [← HL.out, enc_more h128]; simp, by omega, by go_num, by rw [← List.append_assoc]; exact ho', hbw, hz'⟩
    · have hc : (gk : Int) % 256 = gk := by omega
      go_wp2_with (at_builtin; refine wpList_append _ rfl (.tmp 18) (.tmp 21) 99 rfl i0 (.int .u8 0) 1 Tryz.underlying99 hi hz0 hz1 hz2 rfl rfl (ho.alloc _) ⟨wr.heap.size, 0, none⟩ 1 (.int .u8 gk) rfl ?d1 rfl rfl ?d2 ?d3 ?d4 ?_)
      case d1 => simp
      case d2 => rw [cellsOf_len]; simp; unfold maxLen; omega
      case d3 => rw [cellsOf_len]; simp; omega
      case d4 => simp; omega
      intro v' w' ho' hb'
      rw [cellsOf_snoc _ (UInt8.ofNat gk) _ (by simp; omega)] at ho'
      have hbw : Below w.heap.size w w' := (hb.alloc hbase _).trans hb'
      clear hb'
      have hback := run_string (P := Tryz.prog) _ ho' 99 9 Tryz.underlying99 Tryz.underlying5 Tryz.underlying9
      go_wp2
      go_ret
      exact ⟨ret_str (by rw [← enc_small (n := gk) (by omega), HL.out, mk_cat]), hbw⟩
end Go.Proofs.YtjakdbahopbggaaGreatDoor.Wr

/- What wire.Num, wire.Int, wire.Text and the document's answers return. Conditions: the bytes are not too many. -/
namespace Go.Proofs.YtjakdbahopbggaaGreatDoor.Wr
open Go.RowKit Go.Ow Go.Wi

theorem num_no (s : ByteArray) (n : Int) (w : World) (h : n < 0 ∨ 1099511627776 < n) :
    Calls Tryz.prog 38 #[.string s, .int .i64 n] w fun e w' => e = .returned (.tuple #[.string s, .int .i64 1]) ∧ w = w' := by
  rcases h with h | h
  · go_enter Tryz.func38, Tryz.ntmps38
    go_wp2
    go_ret2
    exact ⟨rfl, rfl⟩
  · have h' : ¬ n < 0 := by omega
    go_enter Tryz.func38, Tryz.ntmps38
    go_wp2
    go_ret2
    exact ⟨rfl, rfl⟩

theorem num_yes (s : ByteArray) (n : Nat) (w : World) (hs : s.size ≤ 1000000) (h : n ≤ 1099511627776) :
    Calls Tryz.prog 38 #[.string s, .int .i64 n] w fun e w' => e = .returned (.tuple #[.string (cat s (enc n)), .int .i64 0]) ∧ Below w.heap.size w w' := by
  have h1 : ¬ (1099511627776 < (n : Int)) := by omega
  go_enter Tryz.func38, Tryz.ntmps38
  go_wp2_with (go_at_call 67; refine (put_any _ _ _ (by omega) (by omega)).mono ?_; rintro e w' ⟨rfl, hb⟩)
  go_ret2
  exact ⟨rfl, hb⟩

theorem text_any (s t : ByteArray) (w : World) (hs : s.size ≤ 900000) (ht : t.size ≤ 90000) :
    Calls Tryz.prog 72 #[.string s, .string t] w fun e w' => e = .returned (.string (cat s (enc t.size ++ t.data.toList))) ∧ Below w.heap.size w w' := by
  have hc : (cat s (enc t.size)).size ≤ 900010 := by rw [cat_size]; have := enc_len64 t.size (by omega); omega
  go_enter Tryz.func72, Tryz.ntmps72
  go_wp2_with (go_at_call 67; refine (put_any _ _ _ (by omega) (by omega)).mono ?_; rintro e w' ⟨rfl, hb⟩)
  go_ret
  exact ⟨ret_str (by rw [append_cat, cat_cat]), hb⟩

theorem put_at (s : ByteArray) (m : Int) (n : Nat) (w : World) (hs : s.size ≤ 1000000) (hm : m = n) (hn : n < 18446744073709551616) :
    Calls Tryz.prog 67 #[.string s, .int .u64 m] w fun e w' => e = .returned (.string (cat s (enc n))) ∧ Below w.heap.size w w' := by
  subst hm; exact put_any s n w hs hn
theorem xor_ones (a : Nat) (h : a < 18446744073709551616) : a ^^^ 18446744073709551615 = 18446744073709551615 - a := by
  have e := congrArg BitVec.toNat (BitVec.xor_allOnes (x := BitVec.ofNat 64 a))
  rw [BitVec.toNat_xor, BitVec.toNat_not] at e
  simp only [BitVec.toNat_ofNat, BitVec.toNat_allOnes] at e
  rw [Nat.mod_eq_of_lt (by omega)] at e
  exact e

theorem zig_pos (n : Nat) (h : n ≤ 9223372036854775807) : bits BinOp.xor IntKind.u64 (↑n * 2) (↑n / 9223372036854775808) = (zig n : Int) := by
  have e : (n : Int) / 9223372036854775808 = 0 := by omega
  rw [e, u64_xor _ _ (by omega) (by omega) (by omega) (by omega)]
  simp [zig]
  omega
theorem zig_neg (x : Int) (h0 : ¬ 0 ≤ x) (h : -9223372036854775808 ≤ x) : bits BinOp.xor IntKind.u64 (IntKind.u64.wrap (IntKind.u64.wrap x * 2)) (IntKind.u64.wrap (x / 9223372036854775808)) = (zig x : Int) := by
  have e1 : x / 9223372036854775808 = -1 := by omega
  have e2 : IntKind.u64.wrap (IntKind.u64.wrap x * 2) = ((2 * x + 18446744073709551616).toNat : Int) := by rw [IntKind.wrap_u64, IntKind.wrap_u64]; omega
  have e3 : IntKind.u64.wrap (-1) = ((18446744073709551615 : Nat) : Int) := by rw [IntKind.wrap_u64]; omega
  rw [e1, e2, e3, u64_xor_nat _ _ (by omega) (by omega), xor_ones _ (by omega)]
  unfold zig
  rw [if_neg h0]
  omega

theorem int_any (s : ByteArray) (x : Int) (w : World) (hs : s.size ≤ 1000000) (h1 : -9223372036854775808 ≤ x) (h2 : x ≤ 9223372036854775807) :
    Calls Tryz.prog 95 #[.string s, .int .i64 x] w fun e w' => e = .returned (.string (cat s (enc (zig x)))) ∧ Below w.heap.size w w' := by
  by_cases h0 : 0 ≤ x
  · obtain ⟨n, rfl⟩ := Int.eq_ofNat_of_zero_le h0
    have HZ := Lib.hid (zig_pos n (by omega))
    go_enter Tryz.func95, Tryz.ntmps95
    go_wp2_with (go_at_call 67; refine (put_at _ _ _ _ (by omega) HZ.out (zig_lt _ (by omega) (by omega))).mono ?_; rintro e w' ⟨rfl, hb⟩)
    go_ret
    exact ⟨rfl, hb⟩
  · have HZ := Lib.hid (zig_neg x h0 (by omega))
    go_enter Tryz.func95, Tryz.ntmps95
    go_wp2_with (go_at_call 67; refine (put_at _ _ _ _ (by omega) HZ.out (zig_lt _ (by omega) (by omega))).mono ?_; rintro e w' ⟨rfl, hb⟩)
    go_ret
    exact ⟨rfl, hb⟩

end Go.Proofs.YtjakdbahopbggaaGreatDoor.Wr

/- What wire.may and the document's May return. Conditions: the text is not too long. -/
namespace Go.Proofs.YtjakdbahopbggaaGreatDoor.Wr
open Go.RowKit Go.Ow Go.Wi

abbrev val (k : Nat) (n : Int) (t : ByteArray) : Value := .agg #[.int .u8 k, .int .i64 n, .string t]
theorem ret_bool {a b : Bool} (h : a = b) : Ending.returned (.bool a) = .returned (.bool b) := by rw [h]
theorem bytes_ne {t : ByteArray} (h : t.size ≠ 0) : t.toList ≠ [] := by
  rw [ByteArray.toList_eq]
  intro e
  apply h
  show t.data.size = 0
  simpa using congrArg List.length e
theorem bytes_nil {t : ByteArray} (h : t.size = 0) : t = ⟨#[]⟩ := by
  apply ByteArray.ext
  exact Array.eq_empty_of_size_eq_zero h
theorem bytes_emp {t : ByteArray} (h : t.size ≠ 0) : t.toList.isEmpty = false := by
  have := bytes_ne h
  cases hh : t.toList with
  | nil => exact absurd hh this
  | cons a l => rfl
theorem ext_all (t : ByteArray) (k : Nat) (h : t.size ≤ k) : t.extract 0 k = t := by
  apply ByteArray.ext
  rw [ByteArray.data_extract]
  exact Array.extract_eq_self_of_le (by simpa using h)
theorem ext_ne (t : ByteArray) (k : Nat) (h : k < t.size) : ¬ t.toList = (t.extract 0 k).toList := by
  intro e
  rw [ByteArray.toList_eq, ByteArray.toList_eq] at e
  have := congrArg List.length e
  simp at this
  have h2 : t.data.size = t.size := rfl
  omega
theorem and_one (n : Int) : bits BinOp.and IntKind.i64 n 1 = n % 2 := by
  show IntKind.i64.wrap ((BitVec.ofInt 64 n &&& BitVec.ofInt 64 1).toNat : Int) = _
  have : (BitVec.ofInt 64 n &&& BitVec.ofInt 64 1).toNat = (n % 2).toNat := by
    rw [BitVec.toNat_and]
    show (BitVec.ofInt 64 n).toNat &&& 1 = _
    rw [Nat.and_one_is_mod, BitVec.toNat_ofInt]
    omega
  rw [this]
  simp [IntKind.wrap, IntKind.bits, IntKind.signed]
  omega

set_option maxHeartbeats 2000000 in
theorem may_any (k : Nat) (n : Int) (t : ByteArray) (w : World) (hk : k < 256) (h1 : -9223372036854775808 ≤ n) (h2 : n ≤ 9223372036854775807) (ht : t.size ≤ 90000) :
    Calls Tryz.prog 94 #[val k n t] w fun e w' => e = .returned (.bool (may k n t)) ∧ Below w.heap.size w w' := by
  have hb : ∀ (o1 o2 : Obj), Below w.heap.size w ((w.alloc o1).alloc o2) := fun o1 o2 => ((Below.refl _ _).alloc (Nat.le_refl _) _).alloc (by simp) _
  have HB := Lib.hid hb
  clear hb
  by_cases k1 : k = 1
  · subst k1
    by_cases t0 : t.size = 0
    · obtain rfl := bytes_nil t0
      go_enter Tryz.func94, Tryz.ntmps94
      go_wp2
      go_ret
      exact ⟨ret_bool (by first | exact (decide_eq_true (by omega)).symm | exact (decide_eq_false (by omega)).symm | exact decide_eq_decide.2 (by omega)), HB.out _ _⟩
    · have e1 := bytes_ne t0
      go_enter Tryz.func94, Tryz.ntmps94
      go_wp2
      go_ret
      exact ⟨ret_bool (by first | exact (decide_eq_true (by omega)).symm | exact (decide_eq_false (by omega)).symm | exact decide_eq_decide.2 (by omega)), HB.out _ _⟩
  by_cases k2 : k = 2
  · subst k2
    have e2 := and_one n
    by_cases t0 : t.size = 0
    · obtain rfl := bytes_nil t0
      by_cases n0 : n % 2 = n
      · go_enter Tryz.func94, Tryz.ntmps94
        go_wp2
        go_ret
        exact ⟨ret_bool (by first | exact (decide_eq_true (by omega)).symm | exact (decide_eq_false (by omega)).symm | exact decide_eq_decide.2 (by omega)), HB.out _ _⟩
      · go_enter Tryz.func94, Tryz.ntmps94
        go_wp2
        go_ret
        exact ⟨ret_bool (by first | exact (decide_eq_true (by omega)).symm | exact (decide_eq_false (by omega)).symm | exact decide_eq_decide.2 (by omega)), HB.out _ _⟩
    · have e1 := bytes_ne t0
      go_enter Tryz.func94, Tryz.ntmps94
      go_wp2
      all_goals
        go_ret
        exact ⟨ret_bool (by first | exact (decide_eq_true (by omega)).symm | exact (decide_eq_false (by omega)).symm | exact decide_eq_decide.2 (by omega)), HB.out _ _⟩
  by_cases k3 : k = 3
  · subst k3
    by_cases t0 : t.size ≤ 40
    · have e1 : t.extract 0 t.size = t := ext_all t _ (Nat.le_refl _)
      by_cases n0 : n = 0
      · subst n0
        go_enter Tryz.func94, Tryz.ntmps94
        go_wp2
        go_ret
        exact ⟨ret_bool (by first | exact (decide_eq_true (by omega)).symm | exact (decide_eq_false (by omega)).symm | exact decide_eq_decide.2 (by omega)), HB.out _ _⟩
      · go_enter Tryz.func94, Tryz.ntmps94
        go_wp2
        go_ret
        exact ⟨ret_bool (by first | exact (decide_eq_true (by omega)).symm | exact (decide_eq_false (by omega)).symm | exact decide_eq_decide.2 (by omega)), HB.out _ _⟩
    · have e3 := ext_ne t 40 (by omega)
      go_enter Tryz.func94, Tryz.ntmps94
      go_wp2
      all_goals
        go_ret
        exact ⟨ret_bool (by first | exact (decide_eq_true (by omega)).symm | exact (decide_eq_false (by omega)).symm | exact decide_eq_decide.2 (by omega)), HB.out _ _⟩
  · have k1' : ¬ ((k : Int) = 1) := by omega
    have k2' : ¬ ((k : Int) = 2) := by omega
    have k3' : ¬ ((k : Int) = 3) := by omega
    by_cases k0 : k = 0
    · subst k0
      by_cases t0 : t.size = 0
      · obtain rfl := bytes_nil t0
        by_cases n0 : n = 0
        · subst n0
          go_enter Tryz.func94, Tryz.ntmps94
          go_wp2
          go_ret
          exact ⟨ret_bool (by first | exact (decide_eq_true (by omega)).symm | exact (decide_eq_false (by omega)).symm | exact decide_eq_decide.2 (by omega)), HB.out _ _⟩
        · go_enter Tryz.func94, Tryz.ntmps94
          go_wp2
          go_ret
          exact ⟨ret_bool (by first | exact (decide_eq_true (by omega)).symm | exact (decide_eq_false (by omega)).symm | exact decide_eq_decide.2 (by omega)), HB.out _ _⟩
      · have e1 := bytes_ne t0
        go_enter Tryz.func94, Tryz.ntmps94
        go_wp2
        all_goals
          go_ret
          exact ⟨ret_bool (by first | exact (decide_eq_true (by omega)).symm | exact (decide_eq_false (by omega)).symm | exact decide_eq_decide.2 (by omega)), HB.out _ _⟩
    · have k4 : decide ((k : Int) ≤ 3) = false := by simp; omega
      go_enter Tryz.func94, Tryz.ntmps94
      go_wp2
      all_goals
        go_ret
        exact ⟨ret_bool (by first | exact (decide_eq_true (by omega)).symm | exact (decide_eq_false (by omega)).symm | exact decide_eq_decide.2 (by omega)), HB.out _ _⟩

end Go.Proofs.YtjakdbahopbggaaGreatDoor.Wr

/- What wire.Value and the document's Value return. Conditions: the bytes and the text are not too long. -/
namespace Go.Proofs.YtjakdbahopbggaaGreatDoor.Wr
open Go.RowKit Go.Ow Go.Wi

theorem bcell {W w1 : World} (hb : Below W.heap.size W w1) : (∀ b o, b < W.heap.size → w1.cell? ⟨b, o, none⟩ = W.cell? ⟨b, o, none⟩) ∧ (∀ b o, b < W.heap.size → w1.frozen? ⟨b, o, none⟩ = W.frozen? ⟨b, o, none⟩) :=
  ⟨fun b o h => hb.cell (p := ⟨b, o, none⟩) h, fun b o h => hb.frozen (p := ⟨b, o, none⟩) h⟩
theorem ret_pair {a b : ByteArray} (h : a = b) (n : Int) : Ending.returned (.tuple #[.string a, .int .i64 n]) = .returned (.tuple #[.string b, .int .i64 n]) := by rw [h]
theorem encV0 (n : Int) (t : ByteArray) : encV 0 n t = enc 0 := by simp [encV]
theorem encV1 (n : Int) (t : ByteArray) : encV 1 n t = enc 1 ++ enc (zig n) := by simp [encV]
theorem encV2 (n : Int) (t : ByteArray) : encV 2 n t = enc 2 ++ enc n.toNat := by simp [encV]
theorem encV3 (n : Int) (t : ByteArray) : encV 3 n t = enc 3 ++ (enc t.size ++ t.data.toList) := by simp [encV]
theorem may_cases {k : Nat} {n : Int} {t : ByteArray} (h : may k n t = true) : (k = 0 ∧ n = 0 ∧ t.size = 0) ∨ (k = 1 ∧ t.size = 0) ∨ (k = 2 ∧ (n = 0 ∨ n = 1) ∧ t.size = 0) ∨ (k = 3 ∧ n = 0 ∧ t.size ≤ 40) := of_decide_eq_true h

set_option maxHeartbeats 2000000 in
theorem value_no (s : ByteArray) (k : Nat) (n : Int) (t : ByteArray) (w : World) (hk : k < 256) (h1 : -9223372036854775808 ≤ n) (h2 : n ≤ 9223372036854775807) (ht : t.size ≤ 90000) (hm : may k n t = false) :
    Calls Tryz.prog 73 #[.string s, val k n t] w fun e w' => e = .returned (.tuple #[.string s, .int .i64 4]) ∧ Below w.heap.size w w' := by
  go_enter Tryz.func73, Tryz.ntmps73
  go_wp2_with (go_at_call 94; refine (may_any _ _ _ _ hk h1 h2 ht).mono ?_; rintro e w' ⟨rfl, hb⟩)
  go_ret2
  exact ⟨rfl, ((Below.refl _ _).alloc (Nat.le_refl _) _).trans (hb.mono (by simp))⟩

set_option maxHeartbeats 2000000 in
theorem value_yes (s : ByteArray) (k : Nat) (n : Int) (t : ByteArray) (w : World) (hs : s.size ≤ 800000) (h1 : -9223372036854775808 ≤ n) (h2 : n ≤ 9223372036854775807) (hm : may k n t = true) :
    Calls Tryz.prog 73 #[.string s, val k n t] w fun e w' => e = .returned (.tuple #[.string (cat s (encV k n t)), .int .i64 0]) ∧ Below w.heap.size w w' := by
  have hsz : ∀ m, m < 128 → (cat s (enc m)).size ≤ 800010 := fun m hm => by rw [cat_size, enc_small hm]; simp; omega
  have HS := Lib.hid hsz
  clear hsz
  rcases may_cases hm with ⟨rfl, hn, ht⟩ | ⟨rfl, ht⟩ | ⟨rfl, hn, ht⟩ | ⟨rfl, hn, ht⟩
  · have ht' : t.size ≤ 0 := Nat.le_of_eq ht
    clear ht
    subst hn
    have EV := Lib.hid (encV0 0 t)
    go_enter Tryz.func73, Tryz.ntmps73
    go_wp2_with (first
      | (go_at_call 94; refine (may_any 0 0 t _ (by omega) (by omega) (by omega) (by omega)).mono ?_; rintro e w1 ⟨rfl, hb1⟩; obtain ⟨hc1, hf1⟩ := bcell hb1)
      | (go_at_call 67; refine (put_at _ _ 0 _ (by omega) (by omega) (by omega)).mono ?_; rintro e w2 ⟨rfl, hb2⟩; obtain ⟨hc2, hf2⟩ := bcell hb2; have hz2 : w.heap.size < w1.heap.size := by (have := hb1.size; simp at this; omega)))
    go_ret2
    exact ⟨ret_pair (by rw [EV.out]) _, ((Below.refl _ _).alloc (Nat.le_refl _) _).trans ((hb1.mono (by simp)).trans (hb2.mono (by omega)))⟩
  · have ht' : t.size ≤ 0 := Nat.le_of_eq ht
    clear ht
    have EV := Lib.hid (encV1 n t)
    go_enter Tryz.func73, Tryz.ntmps73
    go_wp2_with (first
      | (go_at_call 94; refine (may_any 1 n t _ (by omega) (by omega) (by omega) (by omega)).mono ?_; rintro e w1 ⟨rfl, hb1⟩; obtain ⟨hc1, hf1⟩ := bcell hb1; have hz1 : w.heap.size < w1.heap.size := by (have := hb1.size; simp at this; omega))
      | (go_at_call 67; refine (put_at _ _ 1 _ (by omega) (by omega) (by omega)).mono ?_; rintro e w2 ⟨rfl, hb2⟩; obtain ⟨hc2, hf2⟩ := bcell hb2; have hz2 : w1.heap.size ≤ w2.heap.size := hb2.size)
      | (go_at_call 95; refine (int_any _ _ _ (by have := HS.out 1 (by omega); omega) (by omega) (by omega)).mono ?_; rintro e w3 ⟨rfl, hb3⟩))
    go_ret2
    exact ⟨ret_pair (by rw [EV.out, cat_cat]) _, ((Below.refl _ _).alloc (Nat.le_refl _) _).trans ((hb1.mono (by simp)).trans ((hb2.mono (by omega)).trans (hb3.mono (by omega))))⟩
  · have ht' : t.size ≤ 0 := Nat.le_of_eq ht
    clear ht
    obtain ⟨m, rfl⟩ : ∃ m : Nat, n = m := ⟨n.toNat, by omega⟩
    have hm2 : m < 2 := by omega
    clear hn
    have EV := Lib.hid (encV2 m t)
    go_enter Tryz.func73, Tryz.ntmps73
    go_wp2_with (first
      | (go_at_call 94; refine (may_any 2 m t _ (by omega) (by omega) (by omega) (by omega)).mono ?_; rintro e w1 ⟨rfl, hb1⟩; obtain ⟨hc1, hf1⟩ := bcell hb1; have hz1 : w.heap.size < w1.heap.size := by (have := hb1.size; simp at this; omega))
      | (go_at_call 67; with_reducible refine (put_at s _ 2 _ (by omega) (by omega) (by omega)).mono ?_; rintro e w2 ⟨rfl, hb2⟩; obtain ⟨hc2, hf2⟩ := bcell hb2; have hz2 : w1.heap.size ≤ w2.heap.size := hb2.size)
      | (go_at_call 67; refine (put_at _ _ m _ (by have := HS.out 2 (by omega); omega) (by omega) (by omega)).mono ?_; rintro e w3 ⟨rfl, hb3⟩))
    go_ret2
    exact ⟨ret_pair (by rw [EV.out, cat_cat]; simp) _, ((Below.refl _ _).alloc (Nat.le_refl _) _).trans ((hb1.mono (by simp)).trans ((hb2.mono (by omega)).trans (hb3.mono (by omega))))⟩
  · subst hn
    have EV := Lib.hid (encV3 0 t)
    go_enter Tryz.func73, Tryz.ntmps73
    go_wp2_with (first
      | (go_at_call 94; refine (may_any 3 0 t _ (by omega) (by omega) (by omega) (by omega)).mono ?_; rintro e w1 ⟨rfl, hb1⟩; obtain ⟨hc1, hf1⟩ := bcell hb1; have hz1 : w.heap.size < w1.heap.size := by (have := hb1.size; simp at this; omega))
      | (go_at_call 67; refine (put_at _ _ 3 _ (by omega) (by omega) (by omega)).mono ?_; rintro e w2 ⟨rfl, hb2⟩; obtain ⟨hc2, hf2⟩ := bcell hb2; have hz2 : w1.heap.size ≤ w2.heap.size := hb2.size)
      | (go_at_call 72; refine (text_any _ _ _ (by have := HS.out 3 (by omega); omega) (by omega)).mono ?_; rintro e w3 ⟨rfl, hb3⟩))
    go_ret2
    exact ⟨ret_pair (by rw [EV.out, cat_cat]) _, ((Below.refl _ _).alloc (Nat.le_refl _) _).trans ((hb1.mono (by simp)).trans ((hb2.mono (by omega)).trans (hb3.mono (by omega))))⟩

end Go.Proofs.YtjakdbahopbggaaGreatDoor.Wr

/- wire.Num, wire.Value and the document's answers, in one contract each: the bytes and the error as functions of the input. Conditions: the bytes and the text are not too long. -/
namespace Go.Proofs.YtjakdbahopbggaaGreatDoor.Wr
open Go.RowKit Go.Ow Go.Wi

/-- may a number be told -/
def numB (n : Int) : Bool := decide (0 ≤ n ∧ n ≤ 1099511627776)
def numS (s : ByteArray) (n : Int) : ByteArray := if numB n then cat s (enc n.toNat) else s
def numE (n : Int) : Int := if numB n then 0 else 1
def valS (s : ByteArray) (k : Nat) (n : Int) (t : ByteArray) : ByteArray := if may k n t then cat s (encV k n t) else s
def valE (k : Nat) (n : Int) (t : ByteArray) : Int := if may k n t then 0 else 4

theorem numB_yes {n : Int} (h : numB n = true) : 0 ≤ n ∧ n ≤ 1099511627776 := of_decide_eq_true h
theorem numB_no {n : Int} (h : numB n = false) : n < 0 ∨ 1099511627776 < n := by have := of_decide_eq_false h; omega

theorem num_all (s : ByteArray) (n : Int) (w : World) (hs : s.size ≤ 1000000) :
    Calls Tryz.prog 38 #[.string s, .int .i64 n] w fun e w' => e = .returned (.tuple #[.string (numS s n), .int .i64 (numE n)]) ∧ Below w.heap.size w w' := by
  cases h : numB n
  · refine (num_no s n w (numB_no h)).mono ?_
    rintro e w' ⟨rfl, rfl⟩
    exact ⟨by simp [numS, numE, h], Below.refl _ _⟩
  · obtain ⟨h0, h1⟩ := numB_yes h
    obtain ⟨m, rfl⟩ := Int.eq_ofNat_of_zero_le h0
    refine (num_yes s m w hs (by omega)).mono ?_
    rintro e w' ⟨rfl, hb⟩
    exact ⟨by simp [numS, numE, h], hb⟩
theorem value_all (s : ByteArray) (k : Nat) (n : Int) (t : ByteArray) (w : World) (hs : s.size ≤ 800000) (hk : k < 256) (h1 : -9223372036854775808 ≤ n) (h2 : n ≤ 9223372036854775807) (ht : t.size ≤ 90000) :
    Calls Tryz.prog 73 #[.string s, val k n t] w fun e w' => e = .returned (.tuple #[.string (valS s k n t), .int .i64 (valE k n t)]) ∧ Below w.heap.size w w' := by
  cases h : may k n t
  · refine (value_no s k n t w hk h1 h2 ht h).mono ?_
    rintro e w' ⟨rfl, hb⟩
    exact ⟨by simp [valS, valE, h], hb⟩
  · refine (value_yes s k n t w hs h1 h2 h).mono ?_
    rintro e w' ⟨rfl, hb⟩
    exact ⟨by simp [valS, valE, h], hb⟩
end Go.Proofs.YtjakdbahopbggaaGreatDoor.Wr
