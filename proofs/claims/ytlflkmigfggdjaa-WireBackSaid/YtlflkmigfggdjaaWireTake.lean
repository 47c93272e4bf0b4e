/- What wire's take returns. Conditions: the bytes are not too many. -/
import Derived.Test.YtlflkmigfggdjaaWireW1
import Derived.Test.YtlflkmigfggdjaaWireRead
namespace Go.Proofs.Ytlflkmigfggdjaa
open Go.RowKit Go.Ow Go.Wi

/-- behind a take -/
def TakeP (b : Nat) (w : World) (r : Except Nat (Nat × List UInt8)) (e : Ending) (w' : World) : Prop :=
  match r with
  | .error c => e = .returned (.tuple #[.int .u64 0, .int .i64 c]) ∧ w' = w
  | .ok (n, l) => e = .returned (.tuple #[.int .u64 n, .int .i64 0]) ∧ w' = w.setCell ⟨b, 0, none⟩ (.string ⟨l.toArray⟩)

theorem pow7 (i : Nat) : (2 : Nat) ^ (7 * i) = 128 ^ i := by rw [Nat.pow_mul]
theorem pow7I (i : Nat) : (2 : Int) ^ (7 * i) = ((128 ^ i : Nat) : Int) := by rw [← pow7]; simp
theorem and127 (c : Nat) (h : c < 256) : bits BinOp.and IntKind.u64 (c : Int) 127 = ((c % 128 : Nat) : Int) := by
  have e := u64_and_nat c 127 (by omega) (by decide)
  have e2 : ((127 : Nat) : Int) = 127 := rfl
  rw [e2] at e
  rw [e]
  have := Nat.and_two_pow_sub_one_eq_mod c 7
  have e3 : (2 : Nat) ^ 7 - 1 = 127 := by decide
  rw [e3] at this
  rw [this]
theorem dvd_lt {p q M : Nat} (h1 : q ∣ p) (h2 : q ∣ M) (h : p < M) : p + q ≤ M := by
  obtain ⟨a, rfl⟩ := h1
  obtain ⟨b, rfl⟩ := h2
  have : a < b := Nat.lt_of_mul_lt_mul_left h
  have h3 : q * (a + 1) ≤ q * b := Nat.mul_le_mul_left _ this
  rw [Nat.mul_add, Nat.mul_one] at h3
  exact h3
theorem or_add (n d i : Nat) (hn : n < 128 ^ i) : n ||| (d * 128 ^ i) = n + d * 128 ^ i := by
  rw [← pow7] at hn ⊢
  rw [Nat.mul_comm, Nat.or_comm]
  have := Nat.two_pow_add_eq_or_of_lt hn d
  omega
theorem part_ok (d i : Nat) (h : d * 128 ^ i < 18446744073709551616) : IntKind.u64.wrap ((d : Int) * 2 ^ (7 * i)) = ((d * 128 ^ i : Nat) : Int) := by
  rw [pow7I, IntKind.wrap_u64, ← Int.natCast_mul]
  omega
theorem part_div (d i : Nat) : ((d * 128 ^ i : Nat) : Int) / 2 ^ (7 * i) = d := by
  rw [pow7I, ← Int.natCast_ediv, Nat.mul_div_cancel _ (Nat.pow_pos (by decide))]
theorem part_bad (d i : Nat) (h : 18446744073709551616 ≤ d * 128 ^ i) : ∃ p : Nat, IntKind.u64.wrap ((d : Int) * 2 ^ (7 * i)) = p ∧ ¬ ((p : Int) / 2 ^ (7 * i) = d) := by
  refine ⟨d * 128 ^ i % 18446744073709551616, ?_, ?_⟩
  · rw [pow7I, IntKind.wrap_u64, ← Int.natCast_mul]; omega
  · rw [pow7I, ← Int.natCast_ediv]
    intro e
    have e := Int.ofNat.inj e
    have h1 : d * 128 ^ i % 18446744073709551616 < d * 128 ^ i := Nat.lt_of_lt_of_le (Nat.mod_lt _ (by decide)) h
    have h2 := Nat.div_mul_le_self (d * 128 ^ i % 18446744073709551616) (128 ^ i)
    rw [e] at h2
    omega
theorem sum_lt (n d i : Nat) (hi : i ≤ 9) (hn : n < 128 ^ i) (h : d * 128 ^ i < 18446744073709551616) : n + d * 128 ^ i < 18446744073709551616 := by
  have h2 : 128 ^ i ∣ 18446744073709551616 := by
    rw [← pow7]
    exact Nat.pow_dvd_pow 2 (show 7 * i ≤ 64 by omega)
  have := dvd_lt (Nat.dvd_mul_left (128 ^ i) d) h2 h
  omega
theorem or_part (n d i : Nat) (hn : n < 128 ^ i) (hn' : n < 18446744073709551616) (h : d * 128 ^ i < 18446744073709551616) : bits BinOp.or IntKind.u64 (n : Int) ((d * 128 ^ i : Nat) : Int) = ((n + d * 128 ^ i : Nat) : Int) := by
  rw [u64_or_nat _ _ hn' h, or_add n d i hn]
theorem next_lt (n c i : Nat) (hn : n < 128 ^ i) : n + c % 128 * 128 ^ i < 128 ^ (i + 1) := by
  have h1 : c % 128 * 128 ^ i ≤ 127 * 128 ^ i := Nat.mul_le_mul_right _ (by omega)
  rw [Nat.pow_succ]
  omega
theorem ext_drop (s : ByteArray) (i : Nat) : (⟨(s.data.toList.drop i).toArray⟩ : ByteArray) = s.extract i s.size := by
  apply ByteArray.ext
  apply Array.toList_inj.1
  rw [ByteArray.data_extract, Array.toList_extract, List.extract_eq_take_drop]
  exact (List.take_of_length_le (by simp)).symm
theorem drop_at (s : ByteArray) (i : Nat) (h : i < s.size) : s.data.toList.drop i = s[i] :: s.data.toList.drop (i + 1) := by
  have h' : i < s.data.toList.length := by simpa using h
  rw [List.drop_eq_getElem_cons h']
  rfl

set_option maxRecDepth 100000 in
set_option maxHeartbeats 4000000 in
theorem take_any (b : Nat) (s : ByteArray) (most : Nat) (w : World) (hs : s.size ≤ 1000000) (hc : w.cell? ⟨b, 0, none⟩ = some (.string s)) (hf : w.frozen? ⟨b, 0, none⟩ = false) :
    Calls Try.prog 40 #[.pointer (some ⟨b, 0, none⟩), .int .u64 most] w (TakeP b w (scan most 0 0 s.data.toList)) := by
  go_enter Try.func40, Try.ntmps40
  go_wp2
  go_loop [6, 7] (fun N I => ∃ i n : Nat, i ≤ s.size ∧ i ≤ 10 ∧ n < 128 ^ i ∧ n < 18446744073709551616 ∧ N = .int .u64 n ∧ I = .int .i64 i ∧ scan most 0 0 s.data.toList = scan most i n (s.data.toList.drop i)) (fun _ I => s.size - (intOf I).toNat)
  case atStart => exact ⟨0, 0, by omega, by omega, by simp, by omega, rfl, rfl, rfl⟩
  case round =>
    obtain ⟨i, n, hi, h10, hn, hn', rfl, rfl, hsc⟩ := hrel
    have HN := Lib.hid hn
    clear hn
    by_cases hlt : i < s.size
    · rw [drop_at s i hlt, scan] at hsc
      have HS := Lib.hid hsc
      clear hsc
      obtain ⟨c, hcv⟩ : ∃ c, c = s[i].toNat := ⟨_, rfl⟩
      rw [← hcv] at HS
      have hc256 : c < 256 := by rw [hcv]; exact s[i].toNat_lt
      have q0 : s[i].toNat = c := hcv.symm
      clear hcv
      have q1 : IntKind.u64.wrap (c : Int) = c := by rw [IntKind.wrap_u64]; omega
      obtain ⟨d, hd⟩ : ∃ d, d = c % 128 := ⟨_, rfl⟩
      have q2 : bits BinOp.and IntKind.u64 (c : Int) 127 = d := by rw [hd]; exact and127 c hc256
      have HD := Lib.hid hd
      clear hd
      by_cases h9 : i ≤ 9
      · by_cases hov : d * 128 ^ i < 18446744073709551616
        · obtain ⟨p, hp⟩ : ∃ p, p = d * 128 ^ i := ⟨_, rfl⟩
          have q3 : IntKind.u64.wrap ((d : Int) * 2 ^ (7 * i)) = p := by rw [hp]; exact part_ok d i hov
          have q4 : (p : Int) / 2 ^ (7 * i) = d := by rw [hp]; exact part_div d i
          obtain ⟨m, hmv⟩ : ∃ m, m = n + p := ⟨_, rfl⟩
          have q5 : bits BinOp.or IntKind.u64 (n : Int) p = m := by rw [hmv, hp]; exact or_part n d i HN.out hn' hov
          have hm64 : m < 18446744073709551616 := by rw [hmv, hp]; exact sum_lt n d i h9 HN.out hov
          have hml : m < 128 ^ (i + 1) := by rw [hmv, hp, HD.out]; exact next_lt n c i HN.out
          have HML := Lib.hid hml
          have HS2 : Hid (scan most 0 0 s.data.toList = if 9 < i ∨ 18446744073709551616 ≤ p ∨ most < m then .error 4 else if 128 ≤ c then scan most (i + 1) m (s.data.toList.drop (i + 1)) else if c = 0 ∧ 0 < i then .error 4 else .ok (m, s.data.toList.drop (i + 1))) := by
            have := HS.out
            rw [← HD.out, ← hp, ← hmv] at this
            exact this
          have hp64 : p < 18446744073709551616 := by rw [hp]; exact hov
          clear hp hmv hov hml HS
          have hext := ext_drop s (i + 1)
          have HE := Lib.hid hext
          clear hext
          go_wp2
          · go_ret2
            show TakeP _ _ _ _ _
            rw [HS2.out, if_pos (by omega)]
            exact ⟨rfl, rfl⟩
          · go_round
            case rel => exact ⟨i + 1, m, by omega, by omega, HML.out, hm64, rfl, by go_num, by rw [HS2.out, if_neg (by omega), if_pos (by omega)]⟩
            case measure => simp [intOf]; omega
          · go_ret2
            show TakeP _ _ _ _ _
            rw [HS2.out, if_neg (by omega), if_neg (by omega), if_pos (by omega)]
            exact ⟨rfl, rfl⟩
          · go_ret2
            show TakeP _ _ _ _ _
            rw [HS2.out, if_neg (by omega), if_neg (by omega), if_neg (by omega)]
            exact ⟨rfl, by rw [HE.out]⟩
          · go_ret2
            show TakeP _ _ _ _ _
            rw [HS2.out, if_neg (by omega), if_neg (by omega), if_neg (by omega)]
            exact ⟨rfl, by rw [HE.out]⟩
        · obtain ⟨p, q3, q4⟩ := part_bad d i (by omega)
          have HS2 : Hid (scan most 0 0 s.data.toList = .error 4) := by
            have := HS.out
            rw [← HD.out, if_pos (by omega)] at this
            exact this
          clear HS hov
          go_wp2
          all_goals
            go_ret2
            show TakeP _ _ _ _ _
            rw [HS2.out]
            exact ⟨rfl, rfl⟩
      · obtain rfl : i = 10 := by omega
        have HS2 : Hid (scan most 0 0 s.data.toList = .error 4) := by
          have := HS.out
          rw [if_pos (by omega)] at this
          exact this
        clear HS
        go_wp2
        all_goals
          go_ret2
          show TakeP _ _ _ _ _
          rw [HS2.out]
          exact ⟨rfl, rfl⟩
    · have HS2 : Hid (scan most 0 0 s.data.toList = .error 8) := by
        rw [hsc, List.drop_eq_nil_of_le (by simp; omega)]
        simp only [scan, Hid]
      clear hsc
      go_wp2
      go_ret2
      show TakeP _ _ _ _ _
      rw [HS2.out]
      exact ⟨rfl, rfl⟩
end Go.Proofs.Ytlflkmigfggdjaa
