/- What the document's Reader.Int, Text and End return, and what they do to the reader. Conditions: the bytes are not too many. -/
import Derived.Test.YtlflkmigfggdjaaWireDn
import Derived.Test.YtlflkmigfggdjaaWireMath4
namespace Go.Proofs.Ytlflkmigfggdjaa
open Go.RowKit Go.Ow Go.Wi

theorem Rs.num_le {most n c : Nat} {r r2 : Rs} (h : r.num most = ((n, c), r2)) : n ≤ most := by
  obtain ⟨l, e⟩ := r
  by_cases he : e = 0
  · subst he
    by_cases hc : c = 0
    · subst hc; exact (Rs.num_ok h).2.1
    · have := (Rs.num_e h hc).2; omega
  · simp [Rs.num, he] at h; omega
theorem Rs.num_l {most n c : Nat} {r r2 : Rs} (h : r.num most = ((n, c), r2)) : r2.l.length ≤ r.l.length := by
  have := num_len most r
  rw [h] at this
  exact this
theorem Rs.num_e0 {most n : Nat} {r r2 : Rs} (h : r.num most = ((n, 0), r2)) : r2.e = 0 := by
  obtain ⟨l, e⟩ := r
  by_cases he : e = 0
  · subst he; exact (Rs.num_ok h).1
  · simp [Rs.num, he] at h

set_option maxHeartbeats 1000000 in
theorem intD_at (b : Nat) (r r2 : Rs) (x : Int) (c : Nat) (w : World) (hr : RdD w b r) (hl : r.l.length ≤ 1000000) (h : r.int = ((x, c), r2)) :
    Calls Try.prog 29 #[ptr b] w fun e w' => e = .returned (.tuple #[.int .i64 x, .int .i64 c]) ∧ But b w w' ∧ RdD w' b r2 := by
  obtain ⟨⟨⟨n, e⟩, r'⟩, hn⟩ : ∃ q, r.num 18446744073709551615 = q := ⟨_, rfl⟩
  have H := number_any b 18446744073709551615 r w (by omega) hr hl
  rw [hn] at H
  have HH := Lib.hid H
  have hn' := Rs.num_le hn
  unfold Rs.int at h
  rw [hn] at h
  simp only at h
  clear H hn
  by_cases he : e = 0
  · subst he
    simp only [ne_eq, not_true_eq_false, if_false, Prod.mk.injEq] at h
    obtain ⟨⟨hx, rfl⟩, rfl⟩ := h
    rcases Nat.mod_two_eq_zero_or_one n with h2 | h2
    · have q1 : (n : Int) % 2 = 0 := by omega
      have HZ : x = (n : Int) / 2 := by rw [← hx]; unfold zag; rw [if_pos h2]; omega
      subst HZ
      clear hx h2
      go_enter Try.func29, Try.ntmps29
      go_wp2_with (go_at_call 47; refine HH.out.mono ?_; rintro e w1 ⟨rfl, hb, h2⟩)
      go_ret2
      exact ⟨rfl, hb, h2⟩
    · have q1 : (n : Int) % 2 = 1 := by omega
      have HZ : x = -((n : Int) / 2) - 1 := by rw [← hx]; unfold zag; rw [if_neg (by omega)]; omega
      subst HZ
      clear hx h2
      go_enter Try.func29, Try.ntmps29
      go_wp2_with (go_at_call 47; refine HH.out.mono ?_; rintro e w1 ⟨rfl, hb, h2⟩)
      go_ret2
      exact ⟨rfl, hb, h2⟩
  · simp only [ne_eq, he, not_false_eq_true, if_true, Prod.mk.injEq] at h
    obtain ⟨⟨rfl, rfl⟩, rfl⟩ := h
    have hc'' : ((e : Int) != 0) = true := by rw [bne_iff_ne]; omega
    clear he
    go_enter Try.func29, Try.ntmps29
    go_wp2_with (go_at_call 47; refine HH.out.mono ?_; rintro e w1 ⟨rfl, hb, h2⟩)
    go_ret2
    exact ⟨rfl, hb, h2⟩

set_option maxHeartbeats 1000000 in
theorem textD_at (b : Nat) (m : Int) (r r2 : Rs) (t : List UInt8) (c : Nat) (w : World) (hr : RdD w b r) (hl : r.l.length ≤ 1000000) (h : r.text m = ((t, c), r2)) :
    Calls Try.prog 30 #[ptr b, .int .i64 m] w fun e w' => e = .returned (.tuple #[str t, .int .i64 c]) ∧ But b w w' ∧ RdD w' b r2 := by
  obtain ⟨⟨⟨n, e⟩, r'⟩, hn⟩ : ∃ q, r.num 1099511627776 = q := ⟨_, rfl⟩
  have HH := Lib.hid (numD_at b r r' n e w hr hl hn)
  have hn' := Rs.num_le hn
  have hlen := Rs.num_l hn
  unfold Rs.text at h
  rw [hn] at h
  simp only at h
  by_cases he : e = 0
  · subst he
    have he0 := Rs.num_e0 hn
    obtain ⟨l', e'⟩ := r'
    simp only at he0 hlen
    subst he0
    simp only [ne_eq, not_true_eq_false, if_false] at h
    by_cases hm : m < (n : Int)
    · rw [if_pos hm] at h
      simp only [Prod.mk.injEq] at h
      obtain ⟨⟨rfl, rfl⟩, rfl⟩ := h
      clear hn
      go_enter Try.func30, Try.ntmps30
      go_wp2_with (first | (go_at_call 28; refine HH.out.mono ?_; rintro e w1 ⟨rfl, hb, h2⟩) | (go_at_call 48; refine (wrong_any b 40 _ _ w1 h2).mono ?_; rintro e w2 ⟨rfl, hb2, h3⟩))
      go_ret2
      exact ⟨rfl, hb.trans hb2, h3⟩
    rw [if_neg hm] at h
    have hsz := size_mk l'
    by_cases hln : l'.length < n
    · rw [if_pos hln] at h
      simp only [Prod.mk.injEq] at h
      obtain ⟨⟨rfl, rfl⟩, rfl⟩ := h
      clear hn
      go_enter Try.func30, Try.ntmps30
      go_wp2_with (first | (go_at_call 28; refine HH.out.mono ?_; rintro e w1 ⟨rfl, hb, h2⟩; have k0 := Two.c0 h2) | (go_at_call 48; refine (wrong_any b 8 _ _ w1 h2).mono ?_; rintro e w2 ⟨rfl, hb2, h3⟩))
      go_ret2
      exact ⟨rfl, hb.trans hb2, h3⟩
    · rw [if_neg hln] at h
      simp only [Prod.mk.injEq] at h
      obtain ⟨⟨rfl, rfl⟩, rfl⟩ := h
      clear hn
      go_enter Try.func30, Try.ntmps30
      go_wp2_with (go_at_call 28; refine HH.out.mono ?_; rintro e w1 ⟨rfl, hb, h2⟩; have k0 := Two.c0 h2; have f0 := Two.fz h2 0)
      go_ret2
      have e1 : str (l'.take n) = .string ((⟨l'.toArray⟩ : ByteArray).extract 0 n) := congrArg Value.string (ext_take l' n).symm
      have e2 : str (l'.drop n) = .string ((⟨l'.toArray⟩ : ByteArray).extract n l'.length) := congrArg Value.string (ext_drop' l' n).symm
      unfold RdD
      rw [e1]
      refine ⟨rfl, hb.trans (But.setCell b _ 0 _), ?_⟩
      show Two _ b 53 (str (l'.drop n)) _
      rw [e2]
      exact Two.set0 h2 _
  · simp only [ne_eq, he, not_false_eq_true, if_true, Prod.mk.injEq] at h
    obtain ⟨⟨rfl, rfl⟩, rfl⟩ := h
    have hc'' : ((e : Int) != 0) = true := by rw [bne_iff_ne]; omega
    clear he hn
    go_enter Try.func30, Try.ntmps30
    go_wp2_with (go_at_call 28; refine HH.out.mono ?_; rintro e w1 ⟨rfl, hb, h2⟩)
    go_ret2
    exact ⟨rfl, hb, h2⟩

set_option maxHeartbeats 1000000 in
theorem endD_any (b : Nat) (r : Rs) (w : World) (hr : RdD w b r) :
    Calls Try.prog 33 #[ptr b] w fun e w' => e = .returned (.int .i64 (Rs.fin r).1) ∧ But b w w' ∧ RdD w' b (Rs.fin r).2 := by
  obtain ⟨l, c⟩ := r
  have hr' : Two w b 53 (str l) (.int .i64 c) := hr
  have k0 := hr'.c0
  have k1 := hr'.c1
  have HR := Lib.hid hr'
  clear hr hr'
  by_cases hc : c = 0
  · subst hc
    by_cases hl : l = []
    · subst hl
      have E1 := Lib.hid (show Rs.fin ⟨[], 0⟩ = (0, ⟨[], 0⟩) by simp [Rs.fin])
      go_enter Try.func33, Try.ntmps33
      go_wp2
      go_ret
      rw [E1.out]
      exact ⟨rfl, But.refl _ _, HR.out⟩
    · have E1 := Lib.hid (show Rs.fin ⟨l, 0⟩ = (4, ⟨[], 4⟩) by simp [Rs.fin, hl])
      have h1 : ¬ l = [] := hl
      have h2 : l.isEmpty = false := by cases l with | nil => exact absurd rfl hl | cons a t => rfl
      clear hl
      go_enter Try.func33, Try.ntmps33
      go_wp2_with (go_at_call 48; refine (wrong_any b 4 _ _ w HR.out).mono ?_; rintro e w2 ⟨rfl, hb2, h3⟩)
      go_ret
      rw [E1.out]
      exact ⟨rfl, hb2, h3⟩
  · have E1 := Lib.hid (show Rs.fin ⟨l, c⟩ = (c, ⟨l, c⟩) by simp [Rs.fin, hc])
    have hc1 : ((c : Int) == 0) = false := by rw [beq_eq_false_iff_ne]; omega
    clear hc
    go_enter Try.func33, Try.ntmps33
    go_wp2
    go_ret
    rw [E1.out]
    exact ⟨rfl, But.refl _ _, HR.out⟩
end Go.Proofs.Ytlflkmigfggdjaa
