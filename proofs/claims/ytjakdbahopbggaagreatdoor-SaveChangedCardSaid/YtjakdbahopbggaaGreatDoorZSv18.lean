/- What the law's large lets by. Conditions: none. -/
import Derived.Test.YtjakdbahopbggaaGreatDoorZSv9
namespace Go.Proofs.YtjakdbahopbggaaGreatDoor
open Go.RowKit Go.Ow Go.Wi

set_option maxRecDepth 100000 in
set_option maxHeartbeats 8000000 in
theorem large_walk (c nx : Int) (dO iO cO wO : Option Addr) (dn dc im ic cn cc wn wc : Nat) (df : Nat → Pr) (w : World) (r : Bool) (hr : r = false ↔ (dn ≤ 15 ∧ im ≤ 170 ∧ cn ≤ 400 ∧ wn ≤ 200) ∧ ∀ k, k < dn → (df k).nn ≤ 60 ∧ (df k).fn ≤ 120 ∧ (df k).vm ≤ 50) (hd : RowA (fun x : Pr => x.cs) 4 w dO dn df) :
    Calls Tryz.prog 5 #[.agg #[.int .i64 c, .int .i64 nx, .slice dO dn dc, .slice iO im ic, .slice cO cn cc, .slice wO wn wc]] w fun e w' => e = .returned (.bool r) ∧ Below w.heap.size w w' := by
  have HR := Lib.hid hr
  have hb0 : Below w.heap.size w (w.alloc (.cells #[.int .i64 c, .int .i64 nx, .slice dO dn dc, .slice iO im ic, .slice cO cn cc, .slice wO wn wc] 27)) := (Below.refl _ _).alloc (Nat.le_refl _) _
  have HB := Lib.hid hb0
  have HD1 := Lib.hid (hd.below hb0)
  clear hd hb0 hr
  by_cases h1 : dn ≤ 15
  case neg =>
    have HF : Hid (true = r) := Lib.hid (by cases hr : r; exact absurd (HR.out.1 hr).1.1 h1; rfl)
    have q1 : (dn : Int) > 15 := by omega
    go_enter Tryz.func5, Tryz.ntmps5
    go_wp2
    go_ret
    exact ⟨ret_bool HF.out, HB.out⟩
  by_cases h2 : im ≤ 170
  case neg =>
    have HF : Hid (true = r) := Lib.hid (by cases hr : r; exact absurd (HR.out.1 hr).1.2.1 h2; rfl)
    have p1 : ¬ ((dn : Int) > 15) := by omega
    have q1 : (im : Int) > 170 := by omega
    go_enter Tryz.func5, Tryz.ntmps5
    go_wp2
    go_ret
    exact ⟨ret_bool HF.out, HB.out⟩
  by_cases h3 : cn ≤ 400
  case neg =>
    have HF : Hid (true = r) := Lib.hid (by cases hr : r; exact absurd (HR.out.1 hr).1.2.2.1 h3; rfl)
    have p1 : ¬ ((dn : Int) > 15) := by omega
    have p2 : ¬ ((im : Int) > 170) := by omega
    have q1 : (cn : Int) > 400 := by omega
    go_enter Tryz.func5, Tryz.ntmps5
    go_wp2
    go_ret
    exact ⟨ret_bool HF.out, HB.out⟩
  by_cases h4 : wn ≤ 200
  case neg =>
    have HF : Hid (true = r) := Lib.hid (by cases hr : r; exact absurd (HR.out.1 hr).1.2.2.2 h4; rfl)
    have p1 : ¬ ((dn : Int) > 15) := by omega
    have p2 : ¬ ((im : Int) > 170) := by omega
    have p3 : ¬ ((cn : Int) > 400) := by omega
    have q1 : (wn : Int) > 200 := by omega
    go_enter Tryz.func5, Tryz.ntmps5
    go_wp2
    go_ret
    exact ⟨ret_bool HF.out, HB.out⟩
  have p1 : ¬ ((dn : Int) > 15) := by omega
  have p2 : ¬ ((im : Int) > 170) := by omega
  have p3 : ¬ ((cn : Int) > 400) := by omega
  have p4 : ¬ ((wn : Int) > 200) := by omega
  have HS : Hid (dn ≤ 15 ∧ im ≤ 170 ∧ cn ≤ 400 ∧ wn ≤ 200) := Lib.hid ⟨h1, h2, h3, h4⟩
  go_enter Tryz.func5, Tryz.ntmps5
  go_wp2
  go_loopg [3] dn (fun g N wr => ∃ j : Nat, j + g = dn ∧ N = .int .i64 j ∧ Hid ((∀ k, k < j → (df k).nn ≤ 60 ∧ (df k).fn ≤ 120 ∧ (df k).vm ≤ 50) ∧ w.alloc (.cells #[.int .i64 c, .int .i64 nx, .slice dO dn dc, .slice iO im ic, .slice cO cn cc, .slice wO wn wc] 27) = wr))
  case atStart => exact ⟨0, by omega, rfl, Lib.hid ⟨fun k hk => by omega, rfl⟩⟩
  case round =>
    obtain ⟨j, hj, rfl, HW⟩ := hrel
    have HK := Lib.hid HW.out.1
    have e0 := HW.out.2
    subst e0
    clear HW
    by_cases hlt : j < dn
    · obtain ⟨b, off, rfl, hb, hc⟩ := HD1.out j hlt
      have i1 : (j : Int) < (dn : Int) := by omega
      have i2 : (0 : Int) ≤ (j : Int) := by omega
      obtain ⟨x, hx⟩ : ∃ x, df j = x := ⟨_, rfl⟩
      rw [hx] at hc
      have HX := Lib.hid hx
      have c1 := hc 1 _ rfl
      have c2 := hc 2 _ rfl
      have c3 := hc 3 _ rfl
      clear hc hx
      by_cases n1 : x.nn ≤ 60
      case neg =>
        have HF : Hid (true = r) := Lib.hid (by cases hr : r; exact absurd (by have := ((HR.out.1 hr).2 j hlt).1; rw [HX.out] at this; exact this) n1; rfl)
        have q1 : (x.nn : Int) > 60 := by omega
        go_wp2
        go_ret
        exact ⟨ret_bool HF.out, HB.out⟩
      by_cases n2 : x.fn ≤ 120
      case neg =>
        have HF : Hid (true = r) := Lib.hid (by cases hr : r; exact absurd (by have := ((HR.out.1 hr).2 j hlt).2.1; rw [HX.out] at this; exact this) n2; rfl)
        have q0 : ¬ ((x.nn : Int) > 60) := by omega
        have q1 : (x.fn : Int) > 120 := by omega
        go_wp2
        go_ret
        exact ⟨ret_bool HF.out, HB.out⟩
      by_cases n3 : x.vm ≤ 50
      case neg =>
        have HF : Hid (true = r) := Lib.hid (by cases hr : r; exact absurd (by have := ((HR.out.1 hr).2 j hlt).2.2; rw [HX.out] at this; exact this) n3; rfl)
        have q0 : ¬ ((x.nn : Int) > 60) := by omega
        have q2 : ¬ ((x.fn : Int) > 120) := by omega
        have q1 : (x.vm : Int) > 50 := by omega
        go_wp2
        go_ret
        exact ⟨ret_bool HF.out, HB.out⟩
      have q0 : ¬ ((x.nn : Int) > 60) := by omega
      have q2 : ¬ ((x.fn : Int) > 120) := by omega
      have HN : Hid ((df j).nn ≤ 60 ∧ (df j).fn ≤ 120 ∧ (df j).vm ≤ 50) := Lib.hid (by rw [HX.out]; exact ⟨n1, n2, n3⟩)
      have q3 : ¬ ((x.vm : Int) > 50) := by omega
      go_wp2
      go_roundg (dn - (j + 1))
      case measure => omega
      case rel => exact ⟨j + 1, by omega, by go_num, Lib.hid ⟨fun k hk => by
        by_cases e : k = j
        · subst e; exact HN.out
        · exact HK.out k (by omega), rfl⟩⟩
    · obtain rfl : j = dn := by omega
      go_wp2
      go_ret
      have HF : Hid (false = r) := Lib.hid (HR.out.2 ⟨HS.out, HK.out⟩).symm
      exact ⟨ret_bool HF.out, HB.out⟩
def lgB (s : Sm) : Bool := !(decide ((s.dn ≤ 15 ∧ s.im ≤ 170 ∧ s.cn ≤ 400 ∧ s.wn ≤ 200) ∧ ∀ k, k < s.dn → (s.df k).nn ≤ 60 ∧ (s.df k).fn ≤ 120 ∧ (s.df k).vm ≤ 50))
theorem lgB_small {s : Sm} (h : lgB s = false) : s.small := by
  unfold lgB at h
  simp only [Bool.not_eq_false', decide_eq_true_eq] at h
  exact ⟨h.1.1, h.1.2.1, h.1.2.2.1, h.1.2.2.2⟩
theorem large_any (s : Sm) (w : World) (h : s.at w) : Calls Tryz.prog 5 #[.agg s.cs] w fun e w' => e = .returned (.bool (lgB s)) ∧ Below w.heap.size w w' :=
  large_walk s.c s.nx s.dO s.iO s.cO s.wO s.dn s.dc s.im s.ic s.cn s.cc s.wn s.wc s.df w (lgB s) (by unfold lgB; simp) h.d
end Go.Proofs.YtjakdbahopbggaaGreatDoor
