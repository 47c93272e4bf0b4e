/- What wire.put, Num and Text return for long bytes, too. Conditions: the bytes are fewer than 2^47. -/
import Derived.Test.YtjakdbahopbggaaGreatDoorZWr1
namespace Go.Proofs.YtjakdbahopbggaaGreatDoor.Wr
open Go.RowKit Go.Ow Go.Wi

set_option maxHeartbeats 1000000 in
set_option maxRecDepth 100000 in
theorem put_big (s : ByteArray) (n : Nat) (w : World) (hs : s.size ≤ 140737488354000) (hn : n < 18446744073709551616) :
    Calls Tryz.prog 67 #[.string s, .int .u64 n] w fun e w' => e = .returned (.string (cat s (enc n))) ∧ Below w.heap.size w w' := by
  obtain ⟨v, w1, hconv, hown, hbel, hlt⟩ := owns_of_string (P := Tryz.prog) w 9 99 5 s Tryz.underlying9 Tryz.underlying99 Tryz.underlying5 (by unfold maxLen; omega)
  obtain ⟨i0, hi, hz0, hz1, hz2⟩ := info_parts info5
  have HO : Hid (Owns w1 w.heap.size 5 v (cellsOf s.data.toList)) := hown
  clear hown
  go_enter Tryz.func67, Tryz.ntmps67
  go_wp2
  go_loopg [1, 5] n (fun k N V wr => ∃ l : List UInt8, l ++ enc k = enc n ∧ k ≤ n ∧ N = .int .u64 k ∧ Owns wr w.heap.size 5 V (cellsOf (s.data.toList ++ l)) ∧ Below w.heap.size w wr ∧ w.heap.size < wr.heap.size)
  case atStart => exact ⟨[], rfl, Nat.le_refl _, rfl, by simpa using HO.out, hbel, hlt⟩
  case round =>
    obtain ⟨l, hl, hk, rfl, ho, hb, hz⟩ := hrel
    have HL := Lib.hid hl
    clear hl
    have hlen : l.length + (enc gk).length ≤ 10 := by have := enc_len64 n hn; rw [← HL.out] at this; simpa using this
    have hep := enc_pos gk
    have hbase : w.heap.size ≤ wr.heap.size := hb.size
    by_cases h128 : 128 ≤ gk
    · have HOR := Lib.hid (or128 gk)
      go_wp2_with (at_builtin; refine wpList_append _ rfl (.tmp 12) (.tmp 16) 99 rfl i0 (.int .u8 0) 1 Tryz.underlying99 hi hz0 hz1 hz2 rfl rfl (ho.alloc _) ⟨wr.heap.size, 0, none⟩ 1 (.int .u8 (bits BinOp.or IntKind.u8 (↑gk % 256) 128)) rfl ?c1 rfl rfl ?c2 ?c3 ?c4 ?_)
      case c1 => simp
      case c2 => rw [cellsOf_len]; simp; unfold maxLen; omega
      case c3 => rw [cellsOf_len]; simp; omega
      case c4 => simp; omega
      intro v' w' ho' hb'
      rw [cellsOf_snoc _ _ _ HOR.out] at ho'
      clear HOR
      have hz' : w.heap.size < w'.heap.size := by have := hb'.size; simp at this; omega
      have hbw : Below w.heap.size w w' := (hb.alloc hbase _).trans hb'
      clear hb'
      go_wp2
      go_roundg (gk / 128)
      case measure => omega
      case rel => exact ⟨l ++ [UInt8.ofNat (gk % 128 + 128)], by rw [← HL.out, enc_more h128]; simp, by omega, by go_num, by rw [← List.append_assoc]; exact ho', hbw, hz'⟩
    · have hc : (gk : Int) % 256 = gk := by omega
      go_wp2_with (at_builtin; refine wpList_append _ rfl (.tmp 18) (.tmp 21) 99 rfl i0 (.int .u8 0) 1 Tryz.underlying99 hi hz0 hz1 hz2 rfl rfl (ho.alloc _) ⟨wr.heap.size, 0, none⟩ 1 (.int .u8 gk) rfl ?d1 rfl rfl ?d2 ?d3 ?d4 ?_)
      case d1 => simp
      case d2 => rw [cellsOf_len]; simp; unfold maxLen; omega
      case d3 => rw [cellsOf_len]; simp; omega
      case d4 => simp; omega
      intro v' w' ho' hb'
      rw [cellsOf_snoc _ (UInt8.ofNat gk) _ (by simp; omega)] at ho'
      have hbw : Below w.heap.size w w' := (hb.alloc hbase _).trans hb'
      clear hb'
      have hback := run_string (P := Tryz.prog) _ ho' 99 9 Tryz.underlying99 Tryz.underlying5 Tryz.underlying9
      go_wp2
      go_ret
      exact ⟨ret_str (by rw [← enc_small (n := gk) (by omega), HL.out, mk_cat]), hbw⟩
theorem num_noB (s : ByteArray) (n : Int) (w : World) (h : n < 0 ∨ 1099511627776 < n) :
    Calls Tryz.prog 38 #[.string s, .int .i64 n] w fun e w' => e = .returned (.tuple #[.string s, .int .i64 1]) ∧ w = w' := by
  rcases h with h | h
  · go_enter Tryz.func38, Tryz.ntmps38
    go_wp2
    go_ret2
    exact ⟨rfl, rfl⟩
  · have h' : ¬ n < 0 := by omega
    go_enter Tryz.func38, Tryz.ntmps38
    go_wp2
    go_ret2
    exact ⟨rfl, rfl⟩

theorem num_yesB (s : ByteArray) (n : Nat) (w : World) (hs : s.size ≤ 140737488354000) (h : n ≤ 1099511627776) :
    Calls Tryz.prog 38 #[.string s, .int .i64 n] w fun e w' => e = .returned (.tuple #[.string (cat s (enc n)), .int .i64 0]) ∧ Below w.heap.size w w' := by
  have h1 : ¬ (1099511627776 < (n : Int)) := by omega
  go_enter Tryz.func38, Tryz.ntmps38
  go_wp2_with (go_at_call 67; refine (put_big _ _ _ (by omega) (by omega)).mono ?_; rintro e w' ⟨rfl, hb⟩)
  go_ret2
  exact ⟨rfl, hb⟩

theorem num_big (s : ByteArray) (n : Int) (w : World) (hs : s.size ≤ 140737488354000) :
    Calls Tryz.prog 38 #[.string s, .int .i64 n] w fun e w' => e = .returned (.tuple #[.string (numS s n), .int .i64 (numE n)]) ∧ Below w.heap.size w w' := by
  cases h : numB n
  · refine (num_noB s n w (numB_no h)).mono ?_
    rintro e w' ⟨rfl, rfl⟩
    exact ⟨by simp [numS, numE, h], Below.refl _ _⟩
  · obtain ⟨h0, h1⟩ := numB_yes h
    obtain ⟨m, rfl⟩ := Int.eq_ofNat_of_zero_le h0
    refine (num_yesB s m w hs (by omega)).mono ?_
    rintro e w' ⟨rfl, hb⟩
    exact ⟨by simp [numS, numE, h], hb⟩
theorem text_big (s t : ByteArray) (w : World) (hs : s.size ≤ 140737488354000) (ht : t.size ≤ 140737488351232) :
    Calls Tryz.prog 72 #[.string s, .string t] w fun e w' => e = .returned (.string (cat s (enc t.size ++ t.data.toList))) ∧ Below w.heap.size w w' := by
  have hc : (cat s (enc t.size)).size ≤ 140737488354010 := by rw [cat_size]; have := enc_len64 t.size (by omega); omega
  go_enter Tryz.func72, Tryz.ntmps72
  go_wp2_with (go_at_call 67; refine (put_big _ _ _ (by omega) (by omega)).mono ?_; rintro e w' ⟨rfl, hb⟩)
  go_ret
  exact ⟨ret_str (by rw [append_cat, cat_cat]), hb⟩

set_option maxHeartbeats 2000000 in
theorem may_big (k : Nat) (n : Int) (t : ByteArray) (w : World) (hk : k < 256) (h1 : -9223372036854775808 ≤ n) (h2 : n ≤ 9223372036854775807) (ht : t.size ≤ 140737488351232) :
    Calls Tryz.prog 94 #[val k n t] w fun e w' => e = .returned (.bool (may k n t)) ∧ Below w.heap.size w w' := by
  have hb : ∀ (o1 o2 : Obj), Below w.heap.size w ((w.alloc o1).alloc o2) := fun o1 o2 => ((Below.refl _ _).alloc (Nat.le_refl _) _).alloc (by simp) _
  have HB := Lib.hid hb
  clear hb
  by_cases k1 : k = 1
  · subst k1
    by_cases t0 : t.size = 0
    · obtain rfl := bytes_nil t0
      go_enter Tryz.func94, Tryz.ntmps94
      go_wp2
      go_ret
      exact ⟨ret_bool (by first | exact (decide_eq_true (by omega)).symm | exact (decide_eq_false (by omega)).symm | exact decide_eq_decide.2 (by omega)), HB.out _ _⟩
    · have e1 := bytes_ne t0
      go_enter Tryz.func94, Tryz.ntmps94
      go_wp2
      go_ret
      exact ⟨ret_bool (by first | exact (decide_eq_true (by omega)).symm | exact (decide_eq_false (by omega)).symm | exact decide_eq_decide.2 (by omega)), HB.out _ _⟩
  by_cases k2 : k = 2
  · subst k2
    have e2 := and_one n
    by_cases t0 : t.size = 0
    · obtain rfl := bytes_nil t0
      by_cases n0 : n % 2 = n
      · go_enter Tryz.func94, Tryz.ntmps94
        go_wp2
        go_ret
        exact ⟨ret_bool (by first | exact (decide_eq_true (by omega)).symm | exact (decide_eq_false (by omega)).symm | exact decide_eq_decide.2 (by omega)), HB.out _ _⟩
      · go_enter Tryz.func94, Tryz.ntmps94
        go_wp2
        go_ret
        exact ⟨ret_bool (by first | exact (decide_eq_true (by omega)).symm | exact (decide_eq_false (by omega)).symm | exact decide_eq_decide.2 (by omega)), HB.out _ _⟩
    · have e1 := bytes_ne t0
      go_enter Tryz.func94, Tryz.ntmps94
      go_wp2
      all_goals
        go_ret
        exact ⟨ret_bool (by first | exact (decide_eq_true (by omega)).symm | exact (decide_eq_false (by omega)).symm | exact decide_eq_decide.2 (by omega)), HB.out _ _⟩
  by_cases k3 : k = 3
  · subst k3
    by_cases t0 : t.size ≤ 40
    · have e1 : t.extract 0 t.size = t := ext_all t _ (Nat.le_refl _)
      by_cases n0 : n = 0
      · subst n0
        go_enter Tryz.func94, Tryz.ntmps94
        go_wp2
        go_ret
        exact ⟨ret_bool (by first | exact (decide_eq_true (by omega)).symm | exact (decide_eq_false (by omega)).symm | exact decide_eq_decide.2 (by omega)), HB.out _ _⟩
      · go_enter Tryz.func94, Tryz.ntmps94
        go_wp2
        go_ret
        exact ⟨ret_bool (by first | exact (decide_eq_true (by omega)).symm | exact (decide_eq_false (by omega)).symm | exact decide_eq_decide.2 (by omega)), HB.out _ _⟩
    · have e3 := ext_ne t 40 (by omega)
      go_enter Tryz.func94, Tryz.ntmps94
      go_wp2
      all_goals
        go_ret
        exact ⟨ret_bool (by first | exact (decide_eq_true (by omega)).symm | exact (decide_eq_false (by omega)).symm | exact decide_eq_decide.2 (by omega)), HB.out _ _⟩
  · have k1' : ¬ ((k : Int) = 1) := by omega
    have k2' : ¬ ((k : Int) = 2) := by omega
    have k3' : ¬ ((k : Int) = 3) := by omega
    by_cases k0 : k = 0
    · subst k0
      by_cases t0 : t.size = 0
      · obtain rfl := bytes_nil t0
        by_cases n0 : n = 0
        · subst n0
          go_enter Tryz.func94, Tryz.ntmps94
          go_wp2
          go_ret
          exact ⟨ret_bool (by first | exact (decide_eq_true (by omega)).symm | exact (decide_eq_false (by omega)).symm | exact decide_eq_decide.2 (by omega)), HB.out _ _⟩
        · go_enter Tryz.func94, Tryz.ntmps94
          go_wp2
          go_ret
          exact ⟨ret_bool (by first | exact (decide_eq_true (by omega)).symm | exact (decide_eq_false (by omega)).symm | exact decide_eq_decide.2 (by omega)), HB.out _ _⟩
      · have e1 := bytes_ne t0
        go_enter Tryz.func94, Tryz.ntmps94
        go_wp2
        all_goals
          go_ret
          exact ⟨ret_bool (by first | exact (decide_eq_true (by omega)).symm | exact (decide_eq_false (by omega)).symm | exact decide_eq_decide.2 (by omega)), HB.out _ _⟩
    · have k4 : decide ((k : Int) ≤ 3) = false := by simp; omega
      go_enter Tryz.func94, Tryz.ntmps94
      go_wp2
      all_goals
        go_ret
        exact ⟨ret_bool (by first | exact (decide_eq_true (by omega)).symm | exact (decide_eq_false (by omega)).symm | exact decide_eq_decide.2 (by omega)), HB.out _ _⟩

set_option maxHeartbeats 2000000 in
theorem value_noB (s : ByteArray) (k : Nat) (n : Int) (t : ByteArray) (w : World) (hk : k < 256) (h1 : -9223372036854775808 ≤ n) (h2 : n ≤ 9223372036854775807) (ht : t.size ≤ 140737488351232) (hm : may k n t = false) :
    Calls Tryz.prog 73 #[.string s, val k n t] w fun e w' => e = .returned (.tuple #[.string s, .int .i64 4]) ∧ Below w.heap.size w w' := by
  go_enter Tryz.func73, Tryz.ntmps73
  go_wp2_with (go_at_call 94; refine (may_big _ _ _ _ hk h1 h2 ht).mono ?_; rintro e w' ⟨rfl, hb⟩)
  go_ret2
  exact ⟨rfl, ((Below.refl _ _).alloc (Nat.le_refl _) _).trans (hb.mono (by simp))⟩

theorem value_big (s : ByteArray) (k : Nat) (n : Int) (t : ByteArray) (w : World) (hs : s.size ≤ 800000) (hk : k < 256) (h1 : -9223372036854775808 ≤ n) (h2 : n ≤ 9223372036854775807) (ht : t.size ≤ 140737488351232) :
    Calls Tryz.prog 73 #[.string s, val k n t] w fun e w' => e = .returned (.tuple #[.string (valS s k n t), .int .i64 (valE k n t)]) ∧ Below w.heap.size w w' := by
  cases h : may k n t
  · refine (value_noB s k n t w hk h1 h2 ht h).mono ?_
    rintro e w' ⟨rfl, hb⟩
    exact ⟨by simp [valS, valE, h], hb⟩
  · refine (value_yes s k n t w hs h1 h2 h).mono ?_
    rintro e w' ⟨rfl, hb⟩
    exact ⟨by simp [valS, valE, h], hb⟩
end Go.Proofs.YtjakdbahopbggaaGreatDoor.Wr
