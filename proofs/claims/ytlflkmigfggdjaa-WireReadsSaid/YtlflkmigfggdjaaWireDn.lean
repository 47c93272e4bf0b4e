/- What the document's Reader.number and wrong return, and what they do to the reader. Conditions: the bytes are not too many. -/
import Derived.Test.YtlflkmigfggdjaaWireV2
namespace Go.Proofs.Ytlflkmigfggdjaa
open Go.RowKit Go.Ow Go.Wi

/-- the document's reader at block b -/
def RdD (w : World) (b : Nat) (r : Rs) : Prop := Two w b 53 (str r.l) (.int .i64 r.e)

theorem wrong_any (b c : Nat) (x y : Value) (w : World) (h : Two w b 53 x y) :
    Calls Try.prog 48 #[ptr b, .int .i64 c] w fun e w' => e = .returned (.int .i64 c) ∧ But b w w' ∧ RdD w' b ⟨[], c⟩ := by
  have k0 := h.c0
  have k1 := h.c1
  have f0 := h.fz 0
  have f1 := h.fz 1
  have H := Lib.hid h
  clear h
  go_enter Try.func48, Try.ntmps48
  go_wp2
  go_ret
  exact ⟨rfl, (But.setCell b _ 1 _).trans (But.setCell b _ 0 _), (H.out.set1 _).set0 _⟩

/-- behind a number -/
def NumP (b : Nat) (w : World) (r : Except Nat (Nat × List UInt8)) (e : Ending) (w' : World) : Prop :=
  match r with
  | .error c => e = .returned (.tuple #[.int .u64 0, .int .i64 c]) ∧ But b w w' ∧ RdD w' b ⟨[], c⟩
  | .ok (n, l) => e = .returned (.tuple #[.int .u64 n, .int .i64 0]) ∧ But b w w' ∧ RdD w' b ⟨l, 0⟩

theorem pow_more (d k i : Nat) (h : k < i) (hp : 144115188075855871 < d * 128 ^ k) : 18446744073709551616 ≤ d * 128 ^ i := by
  have h1 : d * 128 ^ (k + 1) ≤ d * 128 ^ i := Nat.mul_le_mul_left _ (Nat.pow_le_pow_right (by decide) h)
  rw [Nat.pow_succ, ← Nat.mul_assoc] at h1
  omega
theorem pow_next (d k : Nat) : d * 128 ^ k * 128 = d * 128 ^ (k + 1) := by rw [Nat.pow_succ, ← Nat.mul_assoc]

set_option maxRecDepth 100000 in
set_option maxHeartbeats 4000000 in
theorem number_ok (b : Nat) (s : ByteArray) (most : Nat) (w : World) (hs : s.size ≤ 1000000) (hm : most ≤ 18446744073709551615) (h : Two w b 53 (.string s) (.int .i64 0)) :
    Calls Try.prog 47 #[ptr b, .int .u64 most] w (NumP b w (scan most 0 0 s.data.toList)) := by
  have k0 := h.c0
  have k1 := h.c1
  have f0 := h.fz 0
  have HT := Lib.hid h
  clear h
  go_enter Try.func47, Try.ntmps47
  go_wp2
  go_loop [6, 7] (fun N I => ∃ i n : Nat, i ≤ s.size ∧ i ≤ 10 ∧ n < 128 ^ i ∧ n < 18446744073709551616 ∧ N = .int .u64 n ∧ I = .int .i64 i ∧ scan most 0 0 s.data.toList = scan most i n (s.data.toList.drop i)) (fun _ I => s.size - (intOf I).toNat)
  case atStart => exact ⟨0, 0, by omega, by omega, by simp, by omega, rfl, rfl, rfl⟩
  case round =>
    obtain ⟨i, n, hi, h10, hn, hn', rfl, rfl, hsc⟩ := hrel
    have HN := Lib.hid hn
    clear hn
    by_cases hlt : i < s.size
    · rw [drop_at s i hlt, scan] at hsc
      have HS := Lib.hid hsc
      clear hsc
      obtain ⟨c, hcv⟩ : ∃ c, c = s[i].toNat := ⟨_, rfl⟩
      rw [← hcv] at HS
      have hc256 : c < 256 := by rw [hcv]; exact s[i].toNat_lt
      have q0 : s[i].toNat = c := hcv.symm
      clear hcv
      have q1 : IntKind.u64.wrap (c : Int) = c := by rw [IntKind.wrap_u64]; omega
      obtain ⟨d, hd⟩ : ∃ d, d = c % 128 := ⟨_, rfl⟩
      have q2 : (c : Int) % 128 = d := by omega
      have hd128 : d < 128 := by omega
      have HD := Lib.hid hd
      clear hd
      go_wp2
      go_loop [9, 10] (fun P K => ∃ k p : Nat, k ≤ i ∧ p = d * 128 ^ k ∧ p < 18446744073709551616 ∧ P = .int .u64 p ∧ K = .int .i64 k) (fun _ K => i - (intOf K).toNat)
      case atStart => exact ⟨0, d, by omega, by simp, by omega, rfl, rfl⟩
      case round =>
        obtain ⟨k, p, hk, hp, hp64, rfl, rfl⟩ := hrel
        have HP := Lib.hid hp
        clear hp
        by_cases hki : k < i
        · by_cases hbig : 144115188075855871 < p
          · go_wp2_with (go_at_call 48; refine (wrong_any b 4 _ _ w HT.out).mono ?_; rintro e w' ⟨rfl, hb, h2⟩)
            go_ret2
            show NumP _ _ _ _ _
            have hov : 18446744073709551616 ≤ d * 128 ^ i := pow_more d k i hki (by rw [← HP.out]; exact hbig)
            rw [HS.out, ← HD.out, if_pos (by omega)]
            exact ⟨rfl, hb, h2⟩
          · go_wp2
            go_round
            case rel => exact ⟨k + 1, p * 128, by omega, by rw [HP.out]; exact pow_next d k, by omega, by go_num, by go_num⟩
            case measure => simp [intOf]; omega
        · obtain rfl : i = k := by omega
          obtain ⟨m, hmv⟩ : ∃ m, m = n + p := ⟨_, rfl⟩
          have HS2 : Hid (scan most 0 0 s.data.toList = if 9 < i ∨ 18446744073709551616 ≤ p ∨ most < m then .error 4 else if 128 ≤ c then scan most (i + 1) m (s.data.toList.drop (i + 1)) else if c = 0 ∧ 0 < i then .error 4 else .ok (m, s.data.toList.drop (i + 1))) := by
            have := HS.out
            rw [← HD.out, ← HP.out, ← hmv] at this
            exact this
          have HML : Hid (m < 128 ^ (i + 1)) := by
            rw [hmv, HP.out, HD.out]; exact next_lt n c i HN.out
          clear hki
          by_cases h9 : 9 < i
          · clear hmv
            go_wp2_with (go_at_call 48; refine (wrong_any b 4 _ _ w HT.out).mono ?_; rintro e w' ⟨rfl, hb, h2⟩)
            go_ret2
            show NumP _ _ _ _ _
            rw [HS2.out, if_pos (by omega)]
            exact ⟨rfl, hb, h2⟩
          by_cases hpm : most < p
          · have hbad : most < m := by omega
            clear hmv
            go_wp2_with (go_at_call 48; refine (wrong_any b 4 _ _ w HT.out).mono ?_; rintro e w' ⟨rfl, hb, h2⟩)
            go_ret2
            show NumP _ _ _ _ _
            rw [HS2.out, if_pos (by omega)]
            exact ⟨rfl, hb, h2⟩
          have hsub : (most : Int) - (p : Int) = ((most - p : Nat) : Int) := by omega
          obtain ⟨f, hf⟩ : ∃ f, f = most - p := ⟨_, rfl⟩
          rw [← hf] at hsub
          have hf64 : f ≤ 18446744073709551615 := by omega
          by_cases hfn : f < n
          · have hbad : most < m := by omega
            clear hmv hf
            go_wp2_with (go_at_call 48; refine (wrong_any b 4 _ _ w HT.out).mono ?_; rintro e w' ⟨rfl, hb, h2⟩)
            go_ret2
            show NumP _ _ _ _ _
            rw [HS2.out, if_pos (by omega)]
            exact ⟨rfl, hb, h2⟩
          have hgood : m ≤ most := by omega
          have hsum : (n : Int) + (p : Int) = (m : Int) := by omega
          have hm64 : m < 18446744073709551616 := by omega
          have HE := Lib.hid (ext_drop s (i + 1))
          have HF := Lib.hid hf
          clear hmv hf
          by_cases hc128 : 128 ≤ c
          · go_wp2
            go_round
            case rel => exact ⟨i + 1, m, by omega, by omega, HML.out, hm64, rfl, by go_num, by rw [HS2.out, if_neg (by omega), if_pos hc128]⟩
            case measure => simp [intOf]; omega
          by_cases hc0 : c = 0
          · subst hc0
            by_cases hi0 : 0 < i
            · go_wp2_with (go_at_call 48; refine (wrong_any b 4 _ _ w HT.out).mono ?_; rintro e w' ⟨rfl, hb, h2⟩)
              go_ret2
              show NumP _ _ _ _ _
              rw [HS2.out, if_neg (by omega), if_neg (by omega), if_pos ⟨trivial, hi0⟩]
              exact ⟨rfl, hb, h2⟩
            · obtain rfl : i = 0 := by omega
              go_wp2
              go_ret2
              show NumP _ _ _ _ _
              rw [HS2.out, if_neg (by omega), if_neg (by omega), if_neg (by omega)]
              exact ⟨rfl, But.setCell b _ 0 _, by unfold RdD str; rw [HE.out]; exact HT.out.set0 _⟩
          · have hc1 : ((c : Int) == 0) = false := by rw [beq_eq_false_iff_ne]; omega
            go_wp2
            go_ret2
            show NumP _ _ _ _ _
            rw [HS2.out, if_neg (by omega), if_neg (by omega), if_neg (by omega)]
            exact ⟨rfl, But.setCell b _ 0 _, by unfold RdD str; rw [HE.out]; exact HT.out.set0 _⟩
    · have HS2 : Hid (scan most 0 0 s.data.toList = .error 8) := by
        rw [hsc, List.drop_eq_nil_of_le (by simp; omega)]
        simp only [scan, Hid]
      clear hsc
      go_wp2_with (go_at_call 48; refine (wrong_any b 8 _ _ w HT.out).mono ?_; rintro e w' ⟨rfl, hb, h2⟩)
      go_ret2
      show NumP _ _ _ _ _
      rw [HS2.out]
      exact ⟨rfl, hb, h2⟩

set_option maxHeartbeats 1000000 in
theorem number_bad (b c : Nat) (x : Value) (most : Int) (w : World) (hc : c ≠ 0) (h : Two w b 53 x (.int .i64 c)) :
    Calls Try.prog 47 #[ptr b, .int .u64 most] w fun e w' => e = .returned (.tuple #[.int .u64 0, .int .i64 c]) ∧ ∃ n, w' = w.drewN n := by
  have h1 := h.c1
  clear h
  have hc' : ((c : Int) == 0) = false := by rw [beq_eq_false_iff_ne]; omega
  have hc'' : ((c : Int) != 0) = true := by rw [bne_iff_ne]; omega
  go_enter Try.func47, Try.ntmps47
  go_wp2
  go_quiet (fail)
  go_wp2
  go_ret2
  exact ⟨rfl, _, rfl⟩

theorem number_any (b most : Nat) (r : Rs) (w : World) (hm : most ≤ 18446744073709551615) (hr : RdD w b r) (hl : r.l.length ≤ 1000000) :
    Calls Try.prog 47 #[ptr b, .int .u64 most] w fun e w' => e = .returned (.tuple #[.int .u64 (r.num most).1.1, .int .i64 (r.num most).1.2]) ∧ But b w w' ∧ RdD w' b (r.num most).2 := by
  obtain ⟨l, c⟩ := r
  by_cases hc : c = 0
  · subst hc
    refine (number_ok b ⟨l.toArray⟩ most w (by rw [size_mk]; exact hl) hm hr).mono ?_
    intro e w' hp
    show _ ∧ _ ∧ _
    unfold Rs.num
    simp only [ne_eq, not_true_eq_false, if_false]
    have e1 : (⟨l.toArray⟩ : ByteArray).data.toList = l := rfl
    rw [e1] at hp
    cases hs : scan most 0 0 l with
    | error c => rw [hs] at hp; exact hp
    | ok p => obtain ⟨n, l'⟩ := p; rw [hs] at hp; exact hp
  · refine (number_bad b c (str l) most w hc hr).mono ?_
    rintro e w' ⟨rfl, n, rfl⟩
    have e1 : (Rs.mk l c).num most = ((0, c), ⟨l, c⟩) := by simp [Rs.num, hc]
    rw [e1]
    exact ⟨rfl, But.drewN _ _ _, Two.drewN hr n⟩

set_option maxHeartbeats 1000000 in
theorem numD_at (b : Nat) (r r2 : Rs) (n c : Nat) (w : World) (hr : RdD w b r) (hl : r.l.length ≤ 1000000) (h : r.num 1099511627776 = ((n, c), r2)) :
    Calls Try.prog 28 #[ptr b] w fun e w' => e = .returned (.tuple #[.int .i64 n, .int .i64 c]) ∧ But b w w' ∧ RdD w' b r2 := by
  have H := number_any b 1099511627776 r w (by omega) hr hl
  rw [h] at H
  have HH := Lib.hid H
  have hn : n ≤ 1099511627776 := by
    obtain ⟨l, e⟩ := r
    by_cases he : e = 0
    · subst he
      by_cases hc : c = 0
      · subst hc; exact (Rs.num_ok h).2.1
      · have := (Rs.num_e h hc).2; omega
    · simp [Rs.num, he] at h; omega
  clear H h
  go_enter Try.func28, Try.ntmps28
  go_wp2_with (go_at_call 47; refine HH.out.mono ?_; rintro e w1 ⟨rfl, hb, h2⟩)
  go_ret2
  exact ⟨rfl, hb, h2⟩
end Go.Proofs.Ytlflkmigfggdjaa
