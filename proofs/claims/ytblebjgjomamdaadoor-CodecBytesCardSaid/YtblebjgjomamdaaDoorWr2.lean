import Derived.Test.YtblebjgjomamdaaDoorWr1
import Derived.Test.YtblebjgjomamdaaDoorBut
/- Layer 2's bytes, in plain Lean: no number's bytes begin another one's; texts and values neither; how many bytes. Conditions: none. -/
namespace Go.Wi

theorem ofNat_inj {a b : Nat} (ha : a < 256) (hb : b < 256) (h : UInt8.ofNat a = UInt8.ofNat b) : a = b := by
  have := congrArg UInt8.toNat h
  simp at this
  omega

/-- a number's bytes tell it, and where they end -/
theorem enc_parts : ∀ (m n : Nat) (a b : List UInt8), enc m ++ a = enc n ++ b → m = n ∧ a = b := by
  intro m
  induction m using Nat.strongRecOn with
  | ind m ih =>
    intro n a b h
    by_cases hm : m < 128
    · by_cases hn : n < 128
      · rw [enc_small hm, enc_small hn] at h
        simp only [List.cons_append, List.nil_append, List.cons.injEq] at h
        exact ⟨ofNat_inj (by omega) (by omega) h.1, h.2⟩
      · rw [enc_small hm, enc_more (n := n) (by omega)] at h
        simp only [List.cons_append, List.nil_append, List.cons.injEq] at h
        have := ofNat_inj (by omega) (by omega) h.1
        omega
    · by_cases hn : n < 128
      · rw [enc_more (n := m) (by omega), enc_small hn] at h
        simp only [List.cons_append, List.nil_append, List.cons.injEq] at h
        have := ofNat_inj (by omega) (by omega) h.1
        omega
      · rw [enc_more (n := m) (by omega), enc_more (n := n) (by omega)] at h
        simp only [List.cons_append, List.cons.injEq] at h
        have h1 := ofNat_inj (by omega) (by omega) h.1
        have h2 := ih (m / 128) (by omega) (n / 128) a b h.2
        exact ⟨by omega, h2.2⟩

theorem enc_mono (m n : Nat) (h : m ≤ n) : (enc m).length ≤ (enc n).length := by
  induction m using Nat.strongRecOn generalizing n with
  | ind m ih =>
    by_cases hm : m < 128
    · rw [enc_small hm]; have := enc_pos n; simpa using this
    · rw [enc_more (n := m) (by omega), enc_more (n := n) (by omega)]
      have := ih (m / 128) (by omega) (n / 128) (by omega)
      simp; omega

/-- how far from 0 -/
def far (n : Int) : Nat := n.natAbs
theorem far_mono {x y : Int} (h : far x < far y) : (enc (zig x)).length ≤ (enc (zig y)).length := by
  apply enc_mono
  unfold far at h
  unfold zig
  split <;> split <;> omega


theorem beg_int (x y : Int) : (enc (zig x)).isPrefixOf (enc (zig y)) = (x == y) := by
  rw [Bool.eq_iff_iff, List.isPrefixOf_iff_prefix]
  constructor
  · rintro ⟨r, h⟩
    have := (enc_parts (zig x) (zig y) r [] (by simpa using h)).1
    simpa using zig_inj this
  · intro h
    have : x = y := by simpa using h
    subst this
    exact List.prefix_refl _

theorem beg_text (t u : List UInt8) : (enc t.length ++ t).isPrefixOf (enc u.length ++ u) = (t == u) := by
  rw [Bool.eq_iff_iff, List.isPrefixOf_iff_prefix]
  constructor
  · rintro ⟨r, h⟩
    rw [List.append_assoc] at h
    have := enc_parts _ _ _ _ h
    have h3 : t ++ r = u ++ [] := by rw [List.append_nil]; exact this.2
    have h2 := List.append_inj h3 this.1
    simpa using h2.1
  · intro h
    have : t = u := by simpa using h
    subst this
    exact List.prefix_refl _

theorem may_cases' {k : Nat} {n : Int} {t : ByteArray} (h : may k n t = true) : (k = 0 ∧ n = 0 ∧ t.size = 0) ∨ (k = 1 ∧ t.size = 0) ∨ (k = 2 ∧ (n = 0 ∨ n = 1) ∧ t.size = 0) ∨ (k = 3 ∧ n = 0 ∧ t.size ≤ 40) := of_decide_eq_true h
theorem eq_of_size0 {t u : ByteArray} (h : t.size = 0) (k : u.size = 0) : t = u := by
  apply ByteArray.ext
  rw [Array.eq_empty_of_size_eq_zero h, Array.eq_empty_of_size_eq_zero k]
theorem eq_of_list {t u : ByteArray} (h : t.data.toList = u.data.toList) : t = u := by
  apply ByteArray.ext
  exact Array.toList_inj.1 h

/-- a value's bytes tell it, and where they end -/
theorem encV_parts {k l : Nat} {n m : Int} {t u : ByteArray} (h1 : may k n t = true) (h2 : may l m u = true) (a b : List UInt8) (h : encV k n t ++ a = encV l m u ++ b) : k = l ∧ n = m ∧ t = u ∧ a = b := by
  unfold encV at h
  rw [List.append_assoc, List.append_assoc] at h
  obtain ⟨rfl, h⟩ := enc_parts _ _ _ _ h
  rcases may_cases' h1 with ⟨rfl, rfl, ht⟩ | ⟨rfl, ht⟩ | ⟨rfl, hn, ht⟩ | ⟨rfl, rfl, ht⟩ <;> rcases may_cases' h2 with ⟨hk, hm, hu⟩ | ⟨hk, hu⟩ | ⟨hk, hm, hu⟩ | ⟨hk, hm, hu⟩ <;> first | (exfalso; omega) | skip
  · simp at h
    exact ⟨rfl, hm.symm, eq_of_size0 ht hu, h⟩
  · simp at h
    have := enc_parts _ _ _ _ h
    exact ⟨rfl, zig_inj this.1, eq_of_size0 ht hu, this.2⟩
  · simp at h
    have := enc_parts _ _ _ _ h
    exact ⟨rfl, by omega, eq_of_size0 ht hu, this.2⟩
  · simp at h
    have h1 := enc_parts _ _ _ _ h
    have h2 := List.append_inj h1.2 (by simpa using h1.1)
    exact ⟨rfl, hm.symm, eq_of_list h2.1, h2.2⟩
end Go.Wi

/- Reading layer 2's bytes, in plain Lean: a number byte by byte; what a reader does. Conditions: none. -/
namespace Go.Wi

/-- a number, read byte by byte: at place i, with n so far; an error, or the number and what is left -/
def scan (most : Nat) : Nat → Nat → List UInt8 → Except Nat (Nat × List UInt8)
  | _, _, [] => .error 8
  | i, n, b :: l =>
    if 9 < i ∨ 18446744073709551616 ≤ b.toNat % 128 * 128 ^ i ∨ most < n + b.toNat % 128 * 128 ^ i then .error 4
    else if 128 ≤ b.toNat then scan most (i + 1) (n + b.toNat % 128 * 128 ^ i) l
    else if b.toNat = 0 ∧ 0 < i then .error 4
    else .ok (n + b.toNat % 128 * 128 ^ i, l)

/-- a reader: what is left, and what was wrong -/
structure Rs where
  l : List UInt8
  e : Nat

def Rs.num (most : Nat) (r : Rs) : (Nat × Nat) × Rs :=
  if r.e ≠ 0 then ((0, r.e), r) else match scan most 0 0 r.l with
    | .error c => ((0, c), ⟨[], c⟩)
    | .ok (n, l) => ((n, 0), ⟨l, 0⟩)

/-- the whole number of a number -/
def zag (n : Nat) : Int := if n % 2 = 0 then (n / 2 : Nat) else -((n / 2 : Nat) : Int) - 1
theorem zag_zig (x : Int) : zag (zig x) = x := by unfold zag zig; split <;> split <;> omega
theorem zig_zag (n : Nat) : zig (zag n) = n := by unfold zag zig; split <;> split <;> omega

def Rs.int (r : Rs) : (Int × Nat) × Rs :=
  match r.num 18446744073709551615 with
  | ((n, e), r') => if e ≠ 0 then ((0, e), r') else ((zag n, 0), r')

def Rs.text (most : Int) (r : Rs) : (List UInt8 × Nat) × Rs :=
  match r.num 1099511627776 with
  | ((n, e), r') =>
    if e ≠ 0 then (([], e), r')
    else if most < (n : Int) then (([], 40), ⟨[], 40⟩)
    else if r'.l.length < n then (([], 8), ⟨[], 8⟩)
    else ((r'.l.take n, 0), ⟨r'.l.drop n, 0⟩)

theorem scan_enc (most : Nat) : ∀ (n i m : Nat) (r : List UInt8), m + n * 128 ^ i ≤ most → n * 128 ^ i < 18446744073709551616 → (n = 0 → i = 0) → scan most i m (enc n ++ r) = .ok (m + n * 128 ^ i, r) := by
  intro n
  induction n using Nat.strongRecOn with
  | ind n ih =>
    intro i m r h1 h2 h3
    have hi : i ≤ 9 := by
      rcases Nat.eq_zero_or_pos n with h0 | h0
      · have := h3 h0; omega
      · rcases Nat.lt_or_ge 9 i with hi | hi
        · exfalso
          have : 128 ^ 10 ≤ 128 ^ i := Nat.pow_le_pow_right (by decide) hi
          have h4 : 1 * 128 ^ i ≤ n * 128 ^ i := Nat.mul_le_mul_right _ h0
          have h5 : (18446744073709551616 : Nat) ≤ 128 ^ 10 := by decide
          omega
        · exact hi
    by_cases hn : n < 128
    · rw [enc_small hn]
      simp only [List.cons_append, List.nil_append, scan]
      have e1 : (UInt8.ofNat n).toNat = n := by simp; omega
      rw [e1, Nat.mod_eq_of_lt hn, if_neg (by omega), if_neg (by omega), if_neg (by omega)]
    · rw [enc_more (by omega)]
      simp only [List.cons_append, scan]
      have e1 : (UInt8.ofNat (n % 128 + 128)).toNat = n % 128 + 128 := by simp; omega
      have e2 : (n % 128 + 128) % 128 = n % 128 := by omega
      have e3 : n * 128 ^ i = n / 128 * 128 ^ (i + 1) + n % 128 * 128 ^ i := by
        rw [Nat.pow_succ, Nat.mul_comm (128 ^ i) 128, ← Nat.mul_assoc, ← Nat.add_mul]
        congr 1
        omega
      rw [e1, e2, if_neg (by omega), if_pos (by omega), ih (n / 128) (by omega) (i + 1) _ r (by omega) (by omega) (by omega)]
      rw [e3]
      congr 2
      omega

theorem scan_enc0 {most n : Nat} (h1 : n ≤ most) (h2 : n < 18446744073709551616) (r : List UInt8) : scan most 0 0 (enc n ++ r) = .ok (n, r) := by
  have := scan_enc most n 0 0 r (by simpa using h1) (by simpa using h2) (fun _ => rfl)
  simpa using this
end Go.Wi

/- What wire's take returns. Conditions: the bytes are not too many. -/
namespace Go.Proofs.YtblebjgjomamdaaDoor.Wr
open Go.RowKit Go.Ow Go.Wi

/-- behind a take -/
def TakeP (b : Nat) (w : World) (r : Except Nat (Nat × List UInt8)) (e : Ending) (w' : World) : Prop :=
  match r with
  | .error c => e = .returned (.tuple #[.int .u64 0, .int .i64 c]) ∧ w' = w
  | .ok (n, l) => e = .returned (.tuple #[.int .u64 n, .int .i64 0]) ∧ w' = w.setCell ⟨b, 0, none⟩ (.string ⟨l.toArray⟩)

theorem pow7 (i : Nat) : (2 : Nat) ^ (7 * i) = 128 ^ i := by rw [Nat.pow_mul]
theorem pow7I (i : Nat) : (2 : Int) ^ (7 * i) = ((128 ^ i : Nat) : Int) := by rw [← pow7]; simp
theorem and127 (c : Nat) (h : c < 256) : bits BinOp.and IntKind.u64 (c : Int) 127 = ((c % 128 : Nat) : Int) := by
  have e := u64_and_nat c 127 (by omega) (by decide)
  have e2 : ((127 : Nat) : Int) = 127 := rfl
  rw [e2] at e
  rw [e]
  have := Nat.and_two_pow_sub_one_eq_mod c 7
  have e3 : (2 : Nat) ^ 7 - 1 = 127 := by decide
  rw [e3] at this
  rw [this]
theorem dvd_lt {p q M : Nat} (h1 : q ∣ p) (h2 : q ∣ M) (h : p < M) : p + q ≤ M := by
  obtain ⟨a, rfl⟩ := h1
  obtain ⟨b, rfl⟩ := h2
  have : a < b := Nat.lt_of_mul_lt_mul_left h
  have h3 : q * (a + 1) ≤ q * b := Nat.mul_le_mul_left _ this
  rw [Nat.mul_add, Nat.mul_one] at h3
  exact h3
theorem or_add (n d i : Nat) (hn : n < 128 ^ i) : n ||| (d * 128 ^ i) = n + d * 128 ^ i := by
  rw [← pow7] at hn ⊢
  rw [Nat.mul_comm, Nat.or_comm]
  have := Nat.two_pow_add_eq_or_of_lt hn d
  omega
theorem part_ok (d i : Nat) (h : d * 128 ^ i < 18446744073709551616) : IntKind.u64.wrap ((d : Int) * 2 ^ (7 * i)) = ((d * 128 ^ i : Nat) : Int) := by
  rw [pow7I, IntKind.wrap_u64, ← Int.natCast_mul]
  omega
theorem part_div (d i : Nat) : ((d * 128 ^ i : Nat) : Int) / 2 ^ (7 * i) = d := by
  rw [pow7I, ← Int.natCast_ediv, Nat.mul_div_cancel _ (Nat.pow_pos (by decide))]
theorem part_bad (d i : Nat) (h : 18446744073709551616 ≤ d * 128 ^ i) : ∃ p : Nat, IntKind.u64.wrap ((d : Int) * 2 ^ (7 * i)) = p ∧ ¬ ((p : Int) / 2 ^ (7 * i) = d) := by
  refine ⟨d * 128 ^ i % 18446744073709551616, ?_, ?_⟩
  · rw [pow7I, IntKind.wrap_u64, ← Int.natCast_mul]; omega
  · rw [pow7I, ← Int.natCast_ediv]
    intro e
    have e := Int.ofNat.inj e
    have h1 : d * 128 ^ i % 18446744073709551616 < d * 128 ^ i := Nat.lt_of_lt_of_le (Nat.mod_lt _ (by decide)) h
    have h2 := Nat.div_mul_le_self (d * 128 ^ i % 18446744073709551616) (128 ^ i)
    rw [e] at h2
    omega
theorem sum_lt (n d i : Nat) (hi : i ≤ 9) (hn : n < 128 ^ i) (h : d * 128 ^ i < 18446744073709551616) : n + d * 128 ^ i < 18446744073709551616 := by
  have h2 : 128 ^ i ∣ 18446744073709551616 := by
    rw [← pow7]
    exact Nat.pow_dvd_pow 2 (show 7 * i ≤ 64 by omega)
  have := dvd_lt (Nat.dvd_mul_left (128 ^ i) d) h2 h
  omega
theorem or_part (n d i : Nat) (hn : n < 128 ^ i) (hn' : n < 18446744073709551616) (h : d * 128 ^ i < 18446744073709551616) : bits BinOp.or IntKind.u64 (n : Int) ((d * 128 ^ i : Nat) : Int) = ((n + d * 128 ^ i : Nat) : Int) := by
  rw [u64_or_nat _ _ hn' h, or_add n d i hn]
theorem next_lt (n c i : Nat) (hn : n < 128 ^ i) : n + c % 128 * 128 ^ i < 128 ^ (i + 1) := by
  have h1 : c % 128 * 128 ^ i ≤ 127 * 128 ^ i := Nat.mul_le_mul_right _ (by omega)
  rw [Nat.pow_succ]
  omega
theorem ext_drop (s : ByteArray) (i : Nat) : (⟨(s.data.toList.drop i).toArray⟩ : ByteArray) = s.extract i s.size := by
  apply ByteArray.ext
  apply Array.toList_inj.1
  rw [ByteArray.data_extract, Array.toList_extract, List.extract_eq_take_drop]
  exact (List.take_of_length_le (by simp)).symm
theorem drop_at (s : ByteArray) (i : Nat) (h : i < s.size) : s.data.toList.drop i = s[i] :: s.data.toList.drop (i + 1) := by
  have h' : i < s.data.toList.length := by simpa using h
  rw [List.drop_eq_getElem_cons h']
  rfl

set_option maxRecDepth 100000 in
set_option maxHeartbeats 4000000 in
theorem take_any (b : Nat) (s : ByteArray) (most : Nat) (w : World) (hs : s.size ≤ 1000000) (hc : w.cell? ⟨b, 0, none⟩ = some (.string s)) (hf : w.frozen? ⟨b, 0, none⟩ = false) :
    Calls Tryd.prog 98 #[.pointer (some ⟨b, 0, none⟩), .int .u64 most] w (TakeP b w (scan most 0 0 s.data.toList)) := by
  go_enter Tryd.func98, Tryd.ntmps98
  go_wp2
  go_loop [6, 7] (fun N I => ∃ i n : Nat, i ≤ s.size ∧ i ≤ 10 ∧ n < 128 ^ i ∧ n < 18446744073709551616 ∧ N = .int .u64 n ∧ I = .int .i64 i ∧ scan most 0 0 s.data.toList = scan most i n (s.data.toList.drop i)) (fun _ I => s.size - (intOf I).toNat)
  case atStart => exact ⟨0, 0, by omega, by omega, by simp, by omega, rfl, rfl, rfl⟩
  case round =>
    obtain ⟨i, n, hi, h10, hn, hn', rfl, rfl, hsc⟩ := hrel
    have HN := Lib.hid hn
    clear hn
    by_cases hlt : i < s.size
    · rw [drop_at s i hlt, scan] at hsc
      have HS := Lib.hid hsc
      clear hsc
      obtain ⟨c, hcv⟩ : ∃ c, c = s[i].toNat := ⟨_, rfl⟩
      rw [← hcv] at HS
      have hc256 : c < 256 := by rw [hcv]; exact s[i].toNat_lt
      have q0 : s[i].toNat = c := hcv.symm
      clear hcv
      have q1 : IntKind.u64.wrap (c : Int) = c := by rw [IntKind.wrap_u64]; omega
      obtain ⟨d, hd⟩ : ∃ d, d = c % 128 := ⟨_, rfl⟩
      have q2 : bits BinOp.and IntKind.u64 (c : Int) 127 = d := by rw [hd]; exact and127 c hc256
      have HD := Lib.hid hd
      clear hd
      by_cases h9 : i ≤ 9
      · by_cases hov : d * 128 ^ i < 18446744073709551616
        · obtain ⟨p, hp⟩ : ∃ p, p = d * 128 ^ i := ⟨_, rfl⟩
          have q3 : IntKind.u64.wrap ((d : Int) * 2 ^ (7 * i)) = p := by rw [hp]; exact part_ok d i hov
          have q4 : (p : Int) / 2 ^ (7 * i) = d := by rw [hp]; exact part_div d i
          obtain ⟨m, hmv⟩ : ∃ m, m = n + p := ⟨_, rfl⟩
          have q5 : bits BinOp.or IntKind.u64 (n : Int) p = m := by rw [hmv, hp]; exact or_part n d i HN.out hn' hov
          have hm64 : m < 18446744073709551616 := by rw [hmv, hp]; exact sum_lt n d i h9 HN.out hov
          have hml : m < 128 ^ (i + 1) := by rw [hmv, hp, HD.out]; exact next_lt n c i HN.out
          have HML := Lib.hid hml
          have HS2 : Hid (scan most 0 0 s.data.toList = if 9 < i ∨ 18446744073709551616 ≤ p ∨ most < m then .error 4 else if 128 ≤ c then scan most (i + 1) m (s.data.toList.drop (i + 1)) else if c = 0 ∧ 0 < i then .error 4 else .ok (m, s.data.toList.drop (i + 1))) := by
            have := HS.out
            rw [← HD.out, ← hp, ← hmv] at this
            exact this
          have hp64 : p < 18446744073709551616 := by rw [hp]; exact hov
          clear hp hmv hov hml HS
          have hext := ext_drop s (i + 1)
          have HE := Lib.hid hext
          clear hext
          go_wp2
          · go_ret2
            show TakeP _ _ _ _ _
            rw [HS2.out, if_pos (by omega)]
            exact ⟨rfl, rfl⟩
          · go_round
            case rel => exact ⟨i + 1, m, by omega, by omega, HML.out, hm64, rfl, by go_num, by rw [HS2.out, if_neg (by omega), if_pos (by omega)]⟩
            case measure => simp [intOf]; omega
          · go_ret2
            show TakeP _ _ _ _ _
            rw [HS2.out, if_neg (by omega), if_neg (by omega), if_pos (by omega)]
            exact ⟨rfl, rfl⟩
          · go_ret2
            show TakeP _ _ _ _ _
            rw [HS2.out, if_neg (by omega), if_neg (by omega), if_neg (by omega)]
            exact ⟨rfl, by rw [HE.out]⟩
          · go_ret2
            show TakeP _ _ _ _ _
            rw [HS2.out, if_neg (by omega), if_neg (by omega), if_neg (by omega)]
            exact ⟨rfl, by rw [HE.out]⟩
        · obtain ⟨p, q3, q4⟩ := part_bad d i (by omega)
          have HS2 : Hid (scan most 0 0 s.data.toList = .error 4) := by
            have := HS.out
            rw [← HD.out, if_pos (by omega)] at this
            exact this
          clear HS hov
          go_wp2
          all_goals
            go_ret2
            show TakeP _ _ _ _ _
            rw [HS2.out]
            exact ⟨rfl, rfl⟩
      · obtain rfl : i = 10 := by omega
        have HS2 : Hid (scan most 0 0 s.data.toList = .error 4) := by
          have := HS.out
          rw [if_pos (by omega)] at this
          exact this
        clear HS
        go_wp2
        all_goals
          go_ret2
          show TakeP _ _ _ _ _
          rw [HS2.out]
          exact ⟨rfl, rfl⟩
    · have HS2 : Hid (scan most 0 0 s.data.toList = .error 8) := by
        rw [hsc, List.drop_eq_nil_of_le (by simp; omega)]
        simp only [scan, Hid]
      clear hsc
      go_wp2
      go_ret2
      show TakeP _ _ _ _ _
      rw [HS2.out]
      exact ⟨rfl, rfl⟩
end Go.Proofs.YtblebjgjomamdaaDoor.Wr

/- What wire's Reader.Num returns, and what it does to the reader. Conditions: the bytes are not too many. -/
namespace Go.Proofs.YtblebjgjomamdaaDoor.Wr
open Go.RowKit Go.Ow Go.Wi

abbrev str (l : List UInt8) : Value := .string ⟨l.toArray⟩
abbrev ptr (b : Nat) : Value := .pointer (some ⟨b, 0, none⟩)
/-- the reader at block b -/
def RdW (w : World) (b : Nat) (r : Rs) : Prop := Two w b 83 (str r.l) (.int .i64 r.e)

theorem size_mk (l : List UInt8) : (⟨l.toArray⟩ : ByteArray).size = l.length := by show l.toArray.size = _; simp

theorem take_err (b : Nat) (l : List UInt8) (most c : Nat) (w : World) (hs : l.length ≤ 1000000) (hc : w.cell? ⟨b, 0, none⟩ = some (str l)) (hf : w.frozen? ⟨b, 0, none⟩ = false) (h : scan most 0 0 l = .error c) :
    Calls Tryd.prog 98 #[ptr b, .int .u64 most] w fun e w' => e = .returned (.tuple #[.int .u64 0, .int .i64 c]) ∧ w = w' := by
  refine (take_any b ⟨l.toArray⟩ most w (by rw [size_mk]; exact hs) hc hf).mono ?_
  intro e w' hp
  simp only [h] at hp
  exact ⟨hp.1, hp.2.symm⟩
theorem take_ok (b : Nat) (l : List UInt8) (most n : Nat) (l' : List UInt8) (w : World) (hs : l.length ≤ 1000000) (hc : w.cell? ⟨b, 0, none⟩ = some (str l)) (hf : w.frozen? ⟨b, 0, none⟩ = false) (h : scan most 0 0 l = .ok (n, l')) :
    Calls Tryd.prog 98 #[ptr b, .int .u64 most] w fun e w' => e = .returned (.tuple #[.int .u64 n, .int .i64 0]) ∧ w' = w.setCell ⟨b, 0, none⟩ (str l') := by
  refine (take_any b ⟨l.toArray⟩ most w (by rw [size_mk]; exact hs) hc hf).mono ?_
  intro e w' hp
  simp only [h] at hp
  exact hp

theorem num46_err (B b : Nat) (l : List UInt8) (c : Nat) (w : World) (hs : l.length ≤ 1000000) (hB : w.cell? ⟨B, 0, none⟩ = some (ptr b)) (hc : w.cell? ⟨b, 0, none⟩ = some (str l)) (hf : w.frozen? ⟨b, 0, none⟩ = false) (h : scan 1099511627776 0 0 l = .error c) :
    Calls Tryd.prog 97 #[ptr B] w fun e w' => e = .returned (.tuple #[.int .i64 0, .int .i64 c]) ∧ w = w' := by
  have HH := Lib.hid h
  clear h
  go_enter Tryd.func97, Tryd.ntmps97
  go_wp2_with (go_at_call 98; refine (take_err b l 1099511627776 c w hs hc hf HH.out).mono ?_; rintro e w' ⟨rfl, rfl⟩)
  go_ret2
  exact ⟨rfl, rfl⟩
theorem num46_ok (B b : Nat) (l : List UInt8) (n : Nat) (l' : List UInt8) (w : World) (hs : l.length ≤ 1000000) (hB : w.cell? ⟨B, 0, none⟩ = some (ptr b)) (hc : w.cell? ⟨b, 0, none⟩ = some (str l)) (hf : w.frozen? ⟨b, 0, none⟩ = false) (h : scan 1099511627776 0 0 l = .ok (n, l')) (hn : n ≤ 1099511627776) :
    Calls Tryd.prog 97 #[ptr B] w fun e w' => e = .returned (.tuple #[.int .i64 n, .int .i64 0]) ∧ w' = w.setCell ⟨b, 0, none⟩ (str l') := by
  have HH := Lib.hid h
  clear h
  go_enter Tryd.func97, Tryd.ntmps97
  go_wp2_with (go_at_call 98; refine (take_ok b l 1099511627776 n l' w hs hc hf HH.out).mono ?_; rintro e w' ⟨rfl, rfl⟩)
  go_ret2
  exact ⟨rfl, rfl⟩
end Go.Proofs.YtblebjgjomamdaaDoor.Wr

/- What wire's read[..] returns, by what its closure returns. Conditions: none. -/
namespace Go.Proofs.YtblebjgjomamdaaDoor.Wr
open Go.RowKit Go.Ow Go.Wi


set_option maxHeartbeats 1000000 in
theorem readNum_bad (b c : Nat) (caps : Array Value) (x : Value) (w : World) (hc : c ≠ 0) (h : Two w b 83 x (.int .i64 c)) :
    Calls Tryd.prog 48 #[ptr b, .func (Fn.func 97) #[] caps] w fun e w' => e = .returned (.tuple #[.int .i64 0, .int .i64 c]) ∧ ∃ n, w' = w.drewN n := by
  have h1 := h.c1
  clear h
  have hc' : ((c : Int) == 0) = false := by rw [beq_eq_false_iff_ne]; omega
  have hc'' : ((c : Int) != 0) = true := by rw [bne_iff_ne]; omega
  go_enter Tryd.func48, Tryd.ntmps48
  go_wp2
  go_quiet (fail)
  go_wp2
  go_ret2
  exact ⟨rfl, _, rfl⟩
set_option maxHeartbeats 1000000 in
theorem readNum_err (b c : Nat) (caps : Array Value) (v : Int) (x : Value) (w : World) (hc : c ≠ 0) (h : Two w b 83 x (.int .i64 0))
    (hcl : Calls Tryd.prog 97 caps w fun e w' => e = .returned (.tuple #[.int .i64 v, .int .i64 c]) ∧ But b w w' ∧ ∃ y, Two w' b 83 y (.int .i64 0)) :
    Calls Tryd.prog 48 #[ptr b, .func (Fn.func 97) #[] caps] w fun e w' => e = .returned (.tuple #[.int .i64 0, .int .i64 c]) ∧ But b w w' ∧ Two w' b 83 (str []) (.int .i64 c) := by
  have h1 := h.c1
  clear h
  have HC := Lib.hid hc
  have hc' : ((c : Int) == 0) = false := by rw [beq_eq_false_iff_ne]; omega
  have hc'' : ((c : Int) != 0) = true := by rw [bne_iff_ne]; omega
  clear hc
  go_enter Tryd.func48, Tryd.ntmps48
  go_wp2_with (go_at_call 97; refine hcl.mono ?_; rintro e w1 ⟨rfl, hb, y, h2⟩; have k0 := h2.c0; have k1 := h2.c1; have f0 := h2.fz 0; have f1 := h2.fz 1)
  go_ret2
  exact ⟨rfl, (hb.trans (But.setCell b _ 0 _)).trans (But.setCell b _ 1 _), (h2.set0 _).set1 _⟩
set_option maxHeartbeats 1000000 in
theorem readNum_ok (b : Nat) (caps : Array Value) (v : Int) (l : List UInt8) (x : Value) (w : World) (h : Two w b 83 x (.int .i64 0))
    (hcl : Calls Tryd.prog 97 caps w fun e w' => e = .returned (.tuple #[.int .i64 v, .int .i64 0]) ∧ But b w w' ∧ Two w' b 83 (str l) (.int .i64 0)) :
    Calls Tryd.prog 48 #[ptr b, .func (Fn.func 97) #[] caps] w fun e w' => e = .returned (.tuple #[.int .i64 v, .int .i64 0]) ∧ But b w w' ∧ Two w' b 83 (str l) (.int .i64 0) := by
  have h1 := h.c1
  clear h
  go_enter Tryd.func48, Tryd.ntmps48
  go_wp2_with (go_at_call 97; refine hcl.mono ?_; rintro e w1 ⟨rfl, hb, h2⟩)
  go_ret2
  exact ⟨rfl, hb, h2⟩


set_option maxHeartbeats 1000000 in
theorem readEnd_bad (b c : Nat) (caps : Array Value) (x : Value) (w : World) (hc : c ≠ 0) (h : Two w b 83 x (.int .i64 c)) :
    Calls Tryd.prog 48 #[ptr b, .func (Fn.func 49) #[] caps] w fun e w' => e = .returned (.tuple #[.int .i64 0, .int .i64 c]) ∧ ∃ n, w' = w.drewN n := by
  have h1 := h.c1
  clear h
  have hc' : ((c : Int) == 0) = false := by rw [beq_eq_false_iff_ne]; omega
  have hc'' : ((c : Int) != 0) = true := by rw [bne_iff_ne]; omega
  go_enter Tryd.func48, Tryd.ntmps48
  go_wp2
  go_quiet (fail)
  go_wp2
  go_ret2
  exact ⟨rfl, _, rfl⟩
set_option maxHeartbeats 1000000 in
theorem readEnd_err (b c : Nat) (caps : Array Value) (v : Int) (x : Value) (w : World) (hc : c ≠ 0) (h : Two w b 83 x (.int .i64 0))
    (hcl : Calls Tryd.prog 49 caps w fun e w' => e = .returned (.tuple #[.int .i64 v, .int .i64 c]) ∧ But b w w' ∧ ∃ y, Two w' b 83 y (.int .i64 0)) :
    Calls Tryd.prog 48 #[ptr b, .func (Fn.func 49) #[] caps] w fun e w' => e = .returned (.tuple #[.int .i64 0, .int .i64 c]) ∧ But b w w' ∧ Two w' b 83 (str []) (.int .i64 c) := by
  have h1 := h.c1
  clear h
  have HC := Lib.hid hc
  have hc' : ((c : Int) == 0) = false := by rw [beq_eq_false_iff_ne]; omega
  have hc'' : ((c : Int) != 0) = true := by rw [bne_iff_ne]; omega
  clear hc
  go_enter Tryd.func48, Tryd.ntmps48
  go_wp2_with (go_at_call 49; refine hcl.mono ?_; rintro e w1 ⟨rfl, hb, y, h2⟩; have k0 := h2.c0; have k1 := h2.c1; have f0 := h2.fz 0; have f1 := h2.fz 1)
  go_ret2
  exact ⟨rfl, (hb.trans (But.setCell b _ 0 _)).trans (But.setCell b _ 1 _), (h2.set0 _).set1 _⟩
set_option maxHeartbeats 1000000 in
theorem readEnd_ok (b : Nat) (caps : Array Value) (v : Int) (l : List UInt8) (x : Value) (w : World) (h : Two w b 83 x (.int .i64 0))
    (hcl : Calls Tryd.prog 49 caps w fun e w' => e = .returned (.tuple #[.int .i64 v, .int .i64 0]) ∧ But b w w' ∧ Two w' b 83 (str l) (.int .i64 0)) :
    Calls Tryd.prog 48 #[ptr b, .func (Fn.func 49) #[] caps] w fun e w' => e = .returned (.tuple #[.int .i64 v, .int .i64 0]) ∧ But b w w' ∧ Two w' b 83 (str l) (.int .i64 0) := by
  have h1 := h.c1
  clear h
  go_enter Tryd.func48, Tryd.ntmps48
  go_wp2_with (go_at_call 49; refine hcl.mono ?_; rintro e w1 ⟨rfl, hb, h2⟩)
  go_ret2
  exact ⟨rfl, hb, h2⟩


set_option maxHeartbeats 1000000 in
theorem readInt_bad (b c : Nat) (caps : Array Value) (x : Value) (w : World) (hc : c ≠ 0) (h : Two w b 83 x (.int .i64 c)) :
    Calls Tryd.prog 99 #[ptr b, .func (Fn.func 100) #[] caps] w fun e w' => e = .returned (.tuple #[.int .i64 0, .int .i64 c]) ∧ ∃ n, w' = w.drewN n := by
  have h1 := h.c1
  clear h
  have hc' : ((c : Int) == 0) = false := by rw [beq_eq_false_iff_ne]; omega
  have hc'' : ((c : Int) != 0) = true := by rw [bne_iff_ne]; omega
  go_enter Tryd.func99, Tryd.ntmps99
  go_wp2
  go_quiet (fail)
  go_wp2
  go_ret2
  exact ⟨rfl, _, rfl⟩
set_option maxHeartbeats 1000000 in
theorem readInt_err (b c : Nat) (caps : Array Value) (v : Int) (x : Value) (w : World) (hc : c ≠ 0) (h : Two w b 83 x (.int .i64 0))
    (hcl : Calls Tryd.prog 100 caps w fun e w' => e = .returned (.tuple #[.int .i64 v, .int .i64 c]) ∧ But b w w' ∧ ∃ y, Two w' b 83 y (.int .i64 0)) :
    Calls Tryd.prog 99 #[ptr b, .func (Fn.func 100) #[] caps] w fun e w' => e = .returned (.tuple #[.int .i64 0, .int .i64 c]) ∧ But b w w' ∧ Two w' b 83 (str []) (.int .i64 c) := by
  have h1 := h.c1
  clear h
  have HC := Lib.hid hc
  have hc' : ((c : Int) == 0) = false := by rw [beq_eq_false_iff_ne]; omega
  have hc'' : ((c : Int) != 0) = true := by rw [bne_iff_ne]; omega
  clear hc
  go_enter Tryd.func99, Tryd.ntmps99
  go_wp2_with (go_at_call 100; refine hcl.mono ?_; rintro e w1 ⟨rfl, hb, y, h2⟩; have k0 := h2.c0; have k1 := h2.c1; have f0 := h2.fz 0; have f1 := h2.fz 1)
  go_ret2
  exact ⟨rfl, (hb.trans (But.setCell b _ 0 _)).trans (But.setCell b _ 1 _), (h2.set0 _).set1 _⟩
set_option maxHeartbeats 1000000 in
theorem readInt_ok (b : Nat) (caps : Array Value) (v : Int) (l : List UInt8) (x : Value) (w : World) (h : Two w b 83 x (.int .i64 0))
    (hcl : Calls Tryd.prog 100 caps w fun e w' => e = .returned (.tuple #[.int .i64 v, .int .i64 0]) ∧ But b w w' ∧ Two w' b 83 (str l) (.int .i64 0)) :
    Calls Tryd.prog 99 #[ptr b, .func (Fn.func 100) #[] caps] w fun e w' => e = .returned (.tuple #[.int .i64 v, .int .i64 0]) ∧ But b w w' ∧ Two w' b 83 (str l) (.int .i64 0) := by
  have h1 := h.c1
  clear h
  go_enter Tryd.func99, Tryd.ntmps99
  go_wp2_with (go_at_call 100; refine hcl.mono ?_; rintro e w1 ⟨rfl, hb, h2⟩)
  go_ret2
  exact ⟨rfl, hb, h2⟩


set_option maxHeartbeats 1000000 in
theorem readText_bad (b c : Nat) (caps : Array Value) (x : Value) (w : World) (hc : c ≠ 0) (h : Two w b 83 x (.int .i64 c)) :
    Calls Tryd.prog 77 #[ptr b, .func (Fn.func 78) #[] caps] w fun e w' => e = .returned (.tuple #[str [], .int .i64 c]) ∧ ∃ n, w' = w.drewN n := by
  have h1 := h.c1
  clear h
  have hc' : ((c : Int) == 0) = false := by rw [beq_eq_false_iff_ne]; omega
  have hc'' : ((c : Int) != 0) = true := by rw [bne_iff_ne]; omega
  go_enter Tryd.func77, Tryd.ntmps77
  go_wp2
  go_quiet (fail)
  go_wp2
  go_ret2
  exact ⟨rfl, _, rfl⟩
set_option maxHeartbeats 1000000 in
theorem readText_err (b c : Nat) (caps : Array Value) (v : ByteArray) (x : Value) (w : World) (hc : c ≠ 0) (h : Two w b 83 x (.int .i64 0))
    (hcl : Calls Tryd.prog 78 caps w fun e w' => e = .returned (.tuple #[.string v, .int .i64 c]) ∧ But b w w' ∧ ∃ y, Two w' b 83 y (.int .i64 0)) :
    Calls Tryd.prog 77 #[ptr b, .func (Fn.func 78) #[] caps] w fun e w' => e = .returned (.tuple #[str [], .int .i64 c]) ∧ But b w w' ∧ Two w' b 83 (str []) (.int .i64 c) := by
  have h1 := h.c1
  clear h
  have HC := Lib.hid hc
  have hc' : ((c : Int) == 0) = false := by rw [beq_eq_false_iff_ne]; omega
  have hc'' : ((c : Int) != 0) = true := by rw [bne_iff_ne]; omega
  clear hc
  go_enter Tryd.func77, Tryd.ntmps77
  go_wp2_with (go_at_call 78; refine hcl.mono ?_; rintro e w1 ⟨rfl, hb, y, h2⟩; have k0 := h2.c0; have k1 := h2.c1; have f0 := h2.fz 0; have f1 := h2.fz 1)
  go_ret2
  exact ⟨rfl, (hb.trans (But.setCell b _ 0 _)).trans (But.setCell b _ 1 _), (h2.set0 _).set1 _⟩
set_option maxHeartbeats 1000000 in
theorem readText_ok (b : Nat) (caps : Array Value) (v : ByteArray) (l : List UInt8) (x : Value) (w : World) (h : Two w b 83 x (.int .i64 0))
    (hcl : Calls Tryd.prog 78 caps w fun e w' => e = .returned (.tuple #[.string v, .int .i64 0]) ∧ But b w w' ∧ Two w' b 83 (str l) (.int .i64 0)) :
    Calls Tryd.prog 77 #[ptr b, .func (Fn.func 78) #[] caps] w fun e w' => e = .returned (.tuple #[.string v, .int .i64 0]) ∧ But b w w' ∧ Two w' b 83 (str l) (.int .i64 0) := by
  have h1 := h.c1
  clear h
  go_enter Tryd.func77, Tryd.ntmps77
  go_wp2_with (go_at_call 78; refine hcl.mono ?_; rintro e w1 ⟨rfl, hb, h2⟩)
  go_ret2
  exact ⟨rfl, hb, h2⟩

end Go.Proofs.YtblebjgjomamdaaDoor.Wr

/- What wire's Reader.Num, Left, End and Int return, and what they do to the reader. Conditions: the bytes are not too many. -/
namespace Go.Proofs.YtblebjgjomamdaaDoor.Wr
open Go.RowKit Go.Ow Go.Wi

theorem scan_le (most : Nat) : ∀ (l : List UInt8) (i n m : Nat) (l' : List UInt8), scan most i n l = .ok (m, l') → m ≤ most ∧ l'.length < l.length
  | [], i, n, m, l', h => by simp [scan] at h
  | b :: l, i, n, m, l', h => by
    rw [scan] at h
    split at h
    · cases h
    · split at h
      · have := scan_le most l _ _ _ _ h
        exact ⟨this.1, by simp; omega⟩
      · split at h
        · cases h
        · cases h
          exact ⟨by omega, by simp⟩
theorem scan_err (most : Nat) : ∀ (l : List UInt8) (i n c : Nat), scan most i n l = .error c → c = 4 ∨ c = 8
  | [], i, n, c, h => by simp [scan] at h; omega
  | b :: l, i, n, c, h => by
    rw [scan] at h
    split at h
    · cases h; exact Or.inl rfl
    · split at h
      · exact scan_err most l _ _ _ h
      · split at h
        · cases h; exact Or.inl rfl
        · cases h

theorem box_facts {w : World} {b : Nat} {t t' : TypeId} {x y u : Value} (h : Two w b t x y) : Two (w.alloc (.cells #[u] t')) b t x y ∧ (w.alloc (.cells #[u] t')).cell? ⟨w.heap.size, 0, none⟩ = some u :=
  ⟨h.keptB ((Below.refl _ _).alloc (Nat.le_refl _) _) h.lt, by simp⟩

set_option maxHeartbeats 1000000 in
theorem numW_any (b : Nat) (r : Rs) (w : World) (hr : RdW w b r) (hl : r.l.length ≤ 1000000) :
    Calls Tryd.prog 79 #[ptr b] w fun e w' => e = .returned (.tuple #[.int .i64 (r.num 1099511627776).1.1, .int .i64 (r.num 1099511627776).1.2]) ∧ But b w w' ∧ RdW w' b (r.num 1099511627776).2 := by
  obtain ⟨l, c⟩ := r
  have hr' : Two w b 83 (str l) (.int .i64 c) := hr
  clear hr
  obtain ⟨k1, k2⟩ := box_facts (t' := 60) (u := ptr b) hr'
  have K1 := Lib.hid k1
  by_cases hc : c = 0
  · subst hc
    cases hs : scan 1099511627776 0 0 l with
    | error c =>
      have e1 : (Rs.mk l 0).num 1099511627776 = ((0, c), ⟨[], c⟩) := by simp [Rs.num, hs]
      have hcl := (num46_err w.heap.size b l c (w.alloc (.cells #[ptr b] 60)) hl k2 k1.c0 (k1.fz 0) hs).mono (R' := fun e w' => e = .returned (.tuple #[.int .i64 0, .int .i64 c]) ∧ But b (w.alloc (.cells #[ptr b] 60)) w' ∧ ∃ y, Two w' b 83 y (.int .i64 0)) (by rintro e w' ⟨rfl, rfl⟩; exact ⟨rfl, But.refl _ _, _, K1.out⟩)
      have H := Lib.hid (readNum_err b c #[ptr w.heap.size] 0 _ _ (by have := scan_err _ _ _ _ _ hs; omega) K1.out hcl)
      have E1 := Lib.hid e1
      clear e1 hcl hs k1 k2 hl
      go_enter Tryd.func79, Tryd.ntmps79
      go_wp2_with (go_at_call 48; refine H.out.mono ?_; rintro e w' ⟨rfl, hb, h2⟩)
      go_ret2
      rw [E1.out]
      exact ⟨rfl, (But.alloc b w _).trans hb, h2⟩
    | ok p =>
      obtain ⟨n, l'⟩ := p
      have e1 : (Rs.mk l 0).num 1099511627776 = ((n, 0), ⟨l', 0⟩) := by simp [Rs.num, hs]
      have hcl := (num46_ok w.heap.size b l n l' (w.alloc (.cells #[ptr b] 60)) hl k2 k1.c0 (k1.fz 0) hs (scan_le _ _ _ _ _ _ hs).1).mono (R' := fun e w' => e = .returned (.tuple #[.int .i64 n, .int .i64 0]) ∧ But b (w.alloc (.cells #[ptr b] 60)) w' ∧ Two w' b 83 (str l') (.int .i64 0)) (by rintro e w' ⟨rfl, rfl⟩; exact ⟨rfl, But.setCell _ _ _ _, K1.out.set0 _⟩)
      have H := Lib.hid (readNum_ok b #[ptr w.heap.size] n l' _ _ K1.out hcl)
      have E1 := Lib.hid e1
      clear e1 hcl hs k1 k2 hl
      go_enter Tryd.func79, Tryd.ntmps79
      go_wp2_with (go_at_call 48; refine H.out.mono ?_; rintro e w' ⟨rfl, hb, h2⟩)
      go_ret2
      rw [E1.out]
      exact ⟨rfl, (But.alloc b w _).trans hb, h2⟩
  · have e1 : (Rs.mk l c).num 1099511627776 = ((0, c), ⟨l, c⟩) := by simp [Rs.num, hc]
    have H := Lib.hid (readNum_bad b c #[ptr w.heap.size] _ (w.alloc (.cells #[ptr b] 60)) hc K1.out)
    have E1 := Lib.hid e1
    clear e1 k1 k2 hl
    go_enter Tryd.func79, Tryd.ntmps79
    go_wp2_with (go_at_call 48; refine H.out.mono ?_; rintro e w' ⟨rfl, n, rfl⟩)
    go_ret2
    rw [E1.out]
    exact ⟨rfl, (But.alloc b w _).trans (But.drewN _ _ _), K1.out.drewN _⟩
end Go.Proofs.YtblebjgjomamdaaDoor.Wr

