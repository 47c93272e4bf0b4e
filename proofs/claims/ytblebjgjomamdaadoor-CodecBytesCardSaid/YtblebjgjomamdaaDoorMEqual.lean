/- What slices.Equal returns over texts and over variables. Conditions: lengths are lengths. -/
import Derived.Test.YtblebjgjomamdaaDoorMParts
namespace Go.Proofs.YtblebjgjomamdaaDoor
open Go.RowKit Go.Ow

/-- is p true from k on, m times? -/
def allF (p : Nat → Bool) : Nat → Nat → Bool
  | _, 0 => true
  | k, m + 1 => p k && allF p (k + 1) m
theorem allF_at (p : Nat → Bool) (k n : Nat) (h : k < n) : allF p k (n - k) = (p k && allF p (k + 1) (n - (k + 1))) := by
  have : n - k = n - (k + 1) + 1 := by omega
  rw [this, allF]
theorem allF_end (p : Nat → Bool) (n : Nat) : allF p n (n - n) = true := by rw [Nat.sub_self, allF]
def eqS (m1 m2 : Nat) (f g : Nat → ByteArray) : Bool := decide (m1 = m2) && allF (fun k => decide (f k = g k)) 0 m1

set_option maxHeartbeats 2000000 in
theorem equal_str (o1 o2 : Option Addr) (m1 m2 c1 c2 : Nat) (f g : Nat → ByteArray) (w : World) (h1 : Ss w o1 m1 f) (h2 : Ss w o2 m2 g) (hm : m1 ≤ 9223372036854775807) (hm2 : m2 ≤ 9223372036854775807) :
    Calls Tryd.prog 96 #[.slice o1 m1 c1, .slice o2 m2 c2] w fun e w' => e = .returned (.bool (eqS m1 m2 f g)) ∧ Below w.heap.size w w' := by
  unfold eqS
  by_cases hmm : m1 = m2
  · subst hmm
    rw [decide_eq_true rfl, Bool.true_and]
    have H1 := Lib.hid h1
    have H2 := Lib.hid h2
    clear h1 h2
    obtain ⟨r, hr⟩ : ∃ r, allF (fun k => decide (f k = g k)) 0 m1 = r := ⟨_, rfl⟩
    rw [hr]
    have HR := Lib.hid hr
    clear hr
    go_enter Tryd.func96, Tryd.ntmps96
    go_wp2
    go_loopw [13] (fun i wr => ∃ k : Nat, k ≤ m1 ∧ i = .int .i64 k ∧ Hid (allF (fun k => decide (f k = g k)) k (m1 - k) = r) ∧ Below w.heap.size w wr) (fun i _ => m1 - (intOf i).toNat)
    case atStart => exact ⟨0, Nat.zero_le _, rfl, HR, Below.refl _ _⟩
    case round =>
      obtain ⟨k, hk, rfl, HK, hB⟩ := hrel
      have HB := Lib.hid hB
      clear hB
      by_cases hlt : k < m1
      · obtain ⟨b, off, rfl, hb, c0⟩ := (H1.out.below HB.out) k hlt
        obtain ⟨b', off', rfl, hb', d0⟩ := (H2.out.below HB.out) k hlt
        have E := Lib.hid (allF_at (fun k => decide (f k = g k)) k m1 hlt)
        have i1 : (k : Int) < (m1 : Int) := by omega
        have i2 : (0 : Int) ≤ (k : Int) := by omega
        by_cases hv : f k = g k
        · have HE : Hid (allF (fun k => decide (f k = g k)) (k + 1) (m1 - (k + 1)) = r) := Lib.hid (by have := HK.out; rw [E.out, decide_eq_true hv, Bool.true_and] at this; exact this)
          rw [hv] at c0
          clear hv E
          go_wp2
          go_quiet (fail)
          go_wp2
          go_roundw
          case rel => exact ⟨k + 1, by omega, by go_num, HE, HB.out.trans (Below.drewN _ _)⟩
          case measure => simp [intOf]; omega
        · have HE : Hid (false = r) := Lib.hid (by have := HK.out; rw [E.out, decide_eq_false hv, Bool.false_and] at this; exact this)
          obtain ⟨u, hu⟩ : ∃ u, f k = u := ⟨_, rfl⟩
          obtain ⟨v, hv'⟩ : ∃ u, g k = u := ⟨_, rfl⟩
          rw [hu] at c0 hv
          rw [hv'] at d0 hv
          have n1 := toList_ne hv
          have n2 := toList_beq hv
          clear hu hv hv' E
          go_wp2
          go_quiet (fail)
          go_wp2
          go_ret
          exact ⟨ret_bool HE.out, HB.out.trans (Below.drewN _ _)⟩
      · obtain rfl : k = m1 := by omega
        have HE : Hid (true = r) := Lib.hid (by have := HK.out; rw [allF_end] at this; exact this)
        go_wp2
        go_ret
        exact ⟨ret_bool HE.out, HB.out⟩
  · rw [decide_eq_false hmm, Bool.false_and]
    have n1 : ((m1 : Int) != (m2 : Int)) = true := by simp; omega
    have n2 : ((m1 : Int) == (m2 : Int)) = false := by simp; omega
    clear h1 h2
    go_enter Tryd.func96, Tryd.ntmps96
    go_wp2
    go_ret
    exact ⟨rfl, Below.refl _ _⟩

def sameV (a b : Va) : Bool := decide (a.nm = b.nm ∧ a.k = b.k ∧ a.n = b.n ∧ a.t = b.t)
def eqV (m1 m2 : Nat) (f g : Nat → Va) : Bool := decide (m1 = m2) && allF (fun k => sameV (f k) (g k)) 0 m1

set_option maxHeartbeats 4000000 in
theorem equal_var (o1 o2 : Option Addr) (m1 m2 c1 c2 : Nat) (f g : Nat → Va) (w : World) (h1 : Vr w o1 m1 f) (h2 : Vr w o2 m2 g) (hm : m1 ≤ 9223372036854775807) (hm2 : m2 ≤ 9223372036854775807) :
    Calls Tryd.prog 95 #[.slice o1 m1 c1, .slice o2 m2 c2] w fun e w' => e = .returned (.bool (eqV m1 m2 f g)) ∧ Below w.heap.size w w' := by
  unfold eqV
  by_cases hmm : m1 = m2
  · subst hmm
    rw [decide_eq_true rfl, Bool.true_and]
    have H1 := Lib.hid h1
    have H2 := Lib.hid h2
    clear h1 h2
    obtain ⟨r, hr⟩ : ∃ r, allF (fun k => sameV (f k) (g k)) 0 m1 = r := ⟨_, rfl⟩
    rw [hr]
    have HR := Lib.hid hr
    clear hr
    go_enter Tryd.func95, Tryd.ntmps95
    go_wp2
    go_loopw [13] (fun i wr => ∃ k : Nat, k ≤ m1 ∧ i = .int .i64 k ∧ Hid (allF (fun k => sameV (f k) (g k)) k (m1 - k) = r) ∧ Below w.heap.size w wr) (fun i _ => m1 - (intOf i).toNat)
    case atStart => exact ⟨0, Nat.zero_le _, rfl, HR, Below.refl _ _⟩
    case round =>
      obtain ⟨k, hk, rfl, HK, hB⟩ := hrel
      have HB := Lib.hid hB
      clear hB
      by_cases hlt : k < m1
      · obtain ⟨b, off, rfl, hb, c0, c1, c2, c3⟩ := (H1.out.below HB.out) k hlt
        obtain ⟨b', off', rfl, hb', d0, d1, d2, d3⟩ := (H2.out.below HB.out) k hlt
        have E := Lib.hid (allF_at (fun k => sameV (f k) (g k)) k m1 hlt)
        have i1 : (k : Int) < (m1 : Int) := by omega
        have i2 : (0 : Int) ≤ (k : Int) := by omega
        obtain ⟨u, hu⟩ : ∃ u, f k = u := ⟨_, rfl⟩
        obtain ⟨v, hv⟩ : ∃ u, g k = u := ⟨_, rfl⟩
        rw [hu] at c0 c1 c2 c3 E
        rw [hv] at d0 d1 d2 d3 E
        clear hu hv
        obtain ⟨a, ka, na, ta⟩ := u
        obtain ⟨a', ka', na', ta'⟩ := v
        simp only at c0 c1 c2 c3 d0 d1 d2 d3
        by_cases q : sameV ⟨a, ka, na, ta⟩ ⟨a', ka', na', ta'⟩ = true
        · have HE : Hid (allF (fun k => sameV (f k) (g k)) (k + 1) (m1 - (k + 1)) = r) := Lib.hid (by have := HK.out; rw [E.out, q, Bool.true_and] at this; exact this)
          obtain ⟨rfl, rfl, rfl, rfl⟩ : a = a' ∧ ka = ka' ∧ na = na' ∧ ta = ta' := of_decide_eq_true q
          clear q E
          go_wp2
          go_quiet (fail)
          go_wp2
          go_roundw
          case rel => exact ⟨k + 1, by omega, by go_num, HE, HB.out.trans (Below.drewN _ _)⟩
          case measure => simp [intOf]; omega
        · have HE : Hid (false = r) := Lib.hid (by have := HK.out; rw [E.out, eq_false_of_ne_true q, Bool.false_and] at this; exact this)
          have q' : a ≠ a' ∨ (a = a' ∧ ka ≠ ka') ∨ (a = a' ∧ ka = ka' ∧ na ≠ na') ∨ (a = a' ∧ ka = ka' ∧ na = na' ∧ ta ≠ ta') := by
            have q2 : ¬ (a = a' ∧ ka = ka' ∧ na = na' ∧ ta = ta') := fun h => q (decide_eq_true h)
            by_cases e1 : a = a'
            · by_cases e2 : ka = ka'
              · by_cases e3 : na = na'
                · exact .inr (.inr (.inr ⟨e1, e2, e3, fun e4 => q2 ⟨e1, e2, e3, e4⟩⟩))
                · exact .inr (.inr (.inl ⟨e1, e2, e3⟩))
              · exact .inr (.inl ⟨e1, e2⟩)
            · exact .inl e1
          clear q E
          rcases q' with e | ⟨rfl, e⟩ | ⟨rfl, rfl, e⟩ | ⟨rfl, rfl, rfl, e⟩
          · have n1 := toList_ne e
            have n2 := toList_beq e
            clear e
            go_wp2
            go_quiet (fail)
            go_wp2
            go_ret
            exact ⟨ret_bool HE.out, HB.out.trans (Below.drewN _ _)⟩
          · have n1 : ¬ (ka : Int) = ka' := by omega
            have n2 : ((ka : Int) == ka') = false := by simpa using n1
            clear e
            go_wp2
            go_quiet (fail)
            go_wp2
            go_ret
            exact ⟨ret_bool HE.out, HB.out.trans (Below.drewN _ _)⟩
          · have n2 : (na == na') = false := by simpa using e
            go_wp2
            go_quiet (fail)
            go_wp2
            go_ret
            exact ⟨ret_bool HE.out, HB.out.trans (Below.drewN _ _)⟩
          · have n1 := toList_ne e
            have n2 := toList_beq e
            clear e
            go_wp2
            go_quiet (fail)
            go_wp2
            go_ret
            exact ⟨ret_bool HE.out, HB.out.trans (Below.drewN _ _)⟩
      · obtain rfl : k = m1 := by omega
        have HE : Hid (true = r) := Lib.hid (by have := HK.out; rw [allF_end] at this; exact this)
        go_wp2
        go_ret
        exact ⟨ret_bool HE.out, HB.out⟩
  · rw [decide_eq_false hmm, Bool.false_and]
    have n1 : ((m1 : Int) != (m2 : Int)) = true := by simp; omega
    have n2 : ((m1 : Int) == (m2 : Int)) = false := by simp; omega
    clear h1 h2
    go_enter Tryd.func95, Tryd.ntmps95
    go_wp2
    go_ret
    exact ⟨rfl, Below.refl _ _⟩
end Go.Proofs.YtblebjgjomamdaaDoor
