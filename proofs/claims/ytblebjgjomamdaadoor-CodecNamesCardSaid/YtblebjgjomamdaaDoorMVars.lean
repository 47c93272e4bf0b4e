/- What model.Vars returns: its closures, slices.IndexFunc and ContainsFunc over variables. Conditions: the tables as laid; lengths are lengths. -/
import Derived.Test.YtblebjgjomamdaaDoorMMay3
namespace Go.Proofs.YtblebjgjomamdaaDoor
open Go.RowKit Go.Ow

/-- a variable -/
structure Va where
  nm : ByteArray
  k : Nat
  n : Int
  t : ByteArray
def Va.fit (v : Va) : Prop := v.nm.size ≤ 9223372036854775807 ∧ v.k < 256 ∧ -9223372036854775808 ≤ v.n ∧ v.n ≤ 9223372036854775807 ∧ v.t.size ≤ 9223372036854775807
abbrev varA (a : ByteArray) (k : Nat) (n : Int) (t : ByteArray) : Value := .agg #[.string a, .int .u8 k, .int .i64 n, .string t]
def varOk (v : Va) : Bool := isName v.nm && (mayV v.k v.n v.t && decide (v.k ≠ 0))

theorem vars2_any (a : ByteArray) (k : Nat) (n : Int) (t : ByteArray) (w : World) :
    Calls Tryd.prog 55 #[varA a k n t] w fun e w' => e = .returned (.string a) ∧ Below w.heap.size w w' := by
  go_enter Tryd.func55, Tryd.ntmps55
  go_wp2
  go_ret
  exact ⟨rfl, (Below.refl _ _).alloc (Nat.le_refl _) _⟩
set_option maxHeartbeats 1000000 in
theorem vars1_any {A : Nat → Nat × Nat} (a : ByteArray) (k : Nat) (n : Int) (t : ByteArray) (w : World) (hG : Gl A w) (hv : (Va.mk a k n t).fit) :
    Calls Tryd.prog 52 #[varA a k n t] w fun e w' => e = .returned (.bool (varOk ⟨a, k, n, t⟩)) ∧ Below w.heap.size w w' := by
  obtain ⟨ha, hk, h1, h2, ht⟩ := hv
  simp only at ha hk h1 h2 ht
  obtain ⟨o, ho⟩ : ∃ o : Obj, o = .cells #[.string a, .int .u8 k, .int .i64 n, .string t] 49 := ⟨_, rfl⟩
  have HG := Lib.hid (hG.below ((Below.refl _ _).alloc (Nat.le_refl _) o))
  have NM := name_any a (w.alloc o) HG.out ha
  rw [ho] at NM HG
  clear ho hG
  unfold varOk
  simp only
  cases hn : isName a
  · rw [hn] at NM
    have NM := Lib.hid NM
    clear hn
    go_enter Tryd.func52, Tryd.ntmps52
    go_wp2_with (go_at_call 32; refine NM.out.mono ?_; rintro e w1 ⟨rfl, hb⟩)
    go_ret
    exact ⟨rfl, below_step ((Below.refl _ _).alloc (Nat.le_refl _) _) hb⟩
  · rw [hn] at NM
    have NM := Lib.hid NM
    clear hn
    have MM := fun w1 => may_any k n t w1 h1 h2 ht
    cases hm : mayV k n t
    · rw [hm] at MM
      have MM := Lib.hid MM
      clear hm
      go_enter Tryd.func52, Tryd.ntmps52
      go_wp2_with (first | (go_at_call 32; refine NM.out.mono ?_; rintro e w1 ⟨rfl, hb⟩; obtain ⟨hc, hf⟩ := bcell hb; have HB := Lib.hid hb; clear hb) | (go_at_call 53; refine (MM.out _).mono ?_; rintro e w2 ⟨rfl, hb2⟩))
      go_ret
      exact ⟨rfl, below_step (below_step ((Below.refl _ _).alloc (Nat.le_refl _) _) HB.out) hb2⟩
    · rw [hm] at MM
      have MM := Lib.hid MM
      clear hm
      go_enter Tryd.func52, Tryd.ntmps52
      go_wp2_with (first | (go_at_call 32; refine NM.out.mono ?_; rintro e w1 ⟨rfl, hb⟩; obtain ⟨hc, hf⟩ := bcell hb; have HB := Lib.hid hb; have hz1 : w.heap.size < w1.heap.size := (by have := hb.size; simp at this; omega); clear hb) | (go_at_call 53; refine (MM.out _).mono ?_; rintro e w2 ⟨rfl, hb2⟩; obtain ⟨hc2, hf2⟩ := bcell hb2; have HB2 := Lib.hid hb2; clear hb2))
      go_ret
      exact ⟨ret_bool (by rw [Bool.true_and, Bool.true_and, Bool.eq_iff_iff]; simp), below_step (below_step ((Below.refl _ _).alloc (Nat.le_refl _) _) HB.out) HB2.out⟩
end Go.Proofs.YtblebjgjomamdaaDoor
