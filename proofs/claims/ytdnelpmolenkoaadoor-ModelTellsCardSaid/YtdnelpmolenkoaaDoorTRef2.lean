/- What callboardref14.Name and callboardref09.May return: the very answers of model.Name and value.May. Conditions: lengths are lengths. -/
import Derived.Test.YtdnelpmolenkoaaDoorTRef1
namespace Go.Proofs.YtdnelpmolenkoaaDoor
open Go.RowKit Go.Ow

def bYes : ByteArray := ⟨#[121, 101, 115]⟩
def bNo : ByteArray := ⟨#[110, 111]⟩
def bLen : ByteArray := ⟨#[108, 101, 110]⟩
theorem bYes_l : bYes.toList = [121, 101, 115] := by rw [ByteArray.toList_eq]; rfl
theorem bNo_l : bNo.toList = [110, 111] := by rw [ByteArray.toList_eq]; rfl
theorem bLen_l : bLen.toList = [108, 101, 110] := by rw [ByteArray.toList_eq]; rfl
theorem isRes_iff (s : ByteArray) : isRes s = true ↔ s = bYes ∨ s = bNo ∨ s = bLen := by
  unfold isRes
  rw [anyB_true]
  constructor
  · rintro ⟨j, hj, h⟩
    rw [decide_eq_true_eq] at h
    obtain rfl | rfl | rfl : j = 0 ∨ j = 1 ∨ j = 2 := by omega
    · exact .inl h.symm
    · exact .inr (.inl h.symm)
    · exact .inr (.inr h.symm)
  · rintro (rfl | rfl | rfl)
    · exact ⟨0, by decide, decide_eq_true rfl⟩
    · exact ⟨1, by decide, decide_eq_true rfl⟩
    · exact ⟨2, by decide, decide_eq_true rfl⟩
set_option maxRecDepth 100000 in
set_option maxHeartbeats 4000000 in
theorem rname_any (s : ByteArray) (w : World) (hs : s.size ≤ 9223372036854775807) :
    Calls Tryd.prog 24 #[.string s] w fun e w' => e = .returned (.bool (isName s)) ∧ w = w' := by
  by_cases h0 : s.size < 1
  · have E := Lib.hid (show isName s = false by unfold isName; rw [show decide (1 ≤ s.size ∧ s.size ≤ 12) = false by simp; omega, Bool.false_and])
    go_enter Tryd.func24, Tryd.ntmps24
    go_wp2
    go_ret
    exact ⟨ret_bool E.out.symm, rfl⟩
  by_cases h12 : 12 < s.size
  · have E := Lib.hid (show isName s = false by unfold isName; rw [show decide (1 ≤ s.size ∧ s.size ≤ 12) = false by simp; omega, Bool.false_and])
    go_enter Tryd.func24, Tryd.ntmps24
    go_wp2
    go_ret
    exact ⟨ret_bool E.out.symm, rfl⟩
  by_cases hy : s = bYes
  · have E := Lib.hid (show isName s = false by unfold isName; rw [(isRes_iff s).2 (.inl hy), Bool.not_true, Bool.false_and, Bool.and_false])
    subst hy
    unfold bYes
    go_enter Tryd.func24, Tryd.ntmps24
    go_wp2
    go_ret
    exact ⟨ret_bool E.out.symm, rfl⟩
  by_cases hn : s = bNo
  · have E := Lib.hid (show isName s = false by unfold isName; rw [(isRes_iff s).2 (.inr (.inl hn)), Bool.not_true, Bool.false_and, Bool.and_false])
    subst hn
    unfold bNo
    go_enter Tryd.func24, Tryd.ntmps24
    go_wp2
    go_ret
    exact ⟨ret_bool E.out.symm, rfl⟩
  by_cases hl : s = bLen
  · have E := Lib.hid (show isName s = false by unfold isName; rw [(isRes_iff s).2 (.inr (.inr hl)), Bool.not_true, Bool.false_and, Bool.and_false])
    subst hl
    unfold bLen
    go_enter Tryd.func24, Tryd.ntmps24
    go_wp2
    go_ret
    exact ⟨ret_bool E.out.symm, rfl⟩
  have hr : isRes s = false := by
    rw [Bool.eq_false_iff]
    intro h
    rcases (isRes_iff s).1 h with h | h | h
    · exact hy h
    · exact hn h
    · exact hl h
  have E : isName s = chars s.data.toList 0 s.size := by unfold isName; rw [hr, show decide (1 ≤ s.size ∧ s.size ≤ 12) = true by simp; omega, Bool.not_false, Bool.true_and, Bool.true_and]
  rw [E]
  obtain ⟨r, hrr⟩ : ∃ r, chars s.data.toList 0 s.size = r := ⟨_, rfl⟩
  rw [hrr]
  have HR := Lib.hid hrr
  have y1 : ¬ s.toList = [121, 101, 115] := by rw [← bYes_l]; exact toList_ne hy
  have y2 : (s.toList == [121, 101, 115]) = false := by rw [← bYes_l]; exact toList_beq hy
  have m1 : ¬ s.toList = [110, 111] := by rw [← bNo_l]; exact toList_ne hn
  have m2 : (s.toList == [110, 111]) = false := by rw [← bNo_l]; exact toList_beq hn
  have l1 : ¬ s.toList = [108, 101, 110] := by rw [← bLen_l]; exact toList_ne hl
  have l2 : (s.toList == [108, 101, 110]) = false := by rw [← bLen_l]; exact toList_beq hl
  clear hrr hr E hy hn hl
  go_enter Tryd.func24, Tryd.ntmps24
  go_wp2
  go_loop [3, 4] (fun i _ => ∃ k : Nat, k ≤ s.size ∧ i = .int .i64 k ∧ Hid (chars s.data.toList k (s.size - k) = r)) (fun i _ => s.size - (intOf i).toNat)
  case atStart => exact ⟨0, Nat.zero_le _, rfl, HR⟩
  case round =>
    obtain ⟨k, hk, rfl, HK⟩ := hrel
    by_cases hlt : k < s.size
    · have E := chars_at s.data.toList k s.size hlt
      rw [getD_idx s k hlt] at E
      have E := Lib.hid E
      have hc256 : s[k].toNat < 256 := UInt8.toNat_lt _
      by_cases hn : nameC k s[k].toNat = true
      · have HE : Hid (chars s.data.toList (k + 1) (s.size - (k + 1)) = r) := Lib.hid (by have := HK.out; rw [E.out, hn, Bool.true_and] at this; exact this)
        have hn' : (97 ≤ (s[k].toNat : Int) ∧ (s[k].toNat : Int) ≤ 122) ∨ ((s[k].toNat : Int) < 97 ∧ ((k : Int) == 0) = false ∧ (48 ≤ (s[k].toNat : Int) ∧ (s[k].toNat : Int) ≤ 57) ∧ ((s[k].toNat : Int) != 95) = true) ∨ ((s[k].toNat : Int) < 97 ∧ ((k : Int) == 0) = false ∧ ((s[k].toNat : Int) != 95) = false) := by
          have := of_decide_eq_true hn
          simp
          omega
        clear hn E
        rcases hn' with ⟨h1, h2⟩ | ⟨h1, h2, ⟨h3, h4⟩, h5⟩ | ⟨h1, h2, h3⟩
        all_goals
          go_wp2
          all_goals
            go_round
            case rel => exact ⟨k + 1, by omega, by go_num, HE⟩
            case measure => simp [intOf]; omega
      · have HE : Hid (false = r) := Lib.hid (by have := HK.out; rw [E.out, eq_false_of_ne_true hn, Bool.false_and] at this; exact this)
        have hn' : ((s[k].toNat : Int) < 97 ∧ ((k : Int) == 0) = true) ∨ (97 ≤ (s[k].toNat : Int) ∧ 122 < (s[k].toNat : Int) ∧ ((k : Int) == 0) = true) ∨ ((s[k].toNat : Int) < 97 ∧ ((k : Int) == 0) = false ∧ ((s[k].toNat : Int) != 95) = true ∧ (s[k].toNat : Int) < 48) ∨ ((s[k].toNat : Int) < 97 ∧ ((k : Int) == 0) = false ∧ ((s[k].toNat : Int) != 95) = true ∧ 48 ≤ (s[k].toNat : Int) ∧ 57 < (s[k].toNat : Int)) ∨
          (97 ≤ (s[k].toNat : Int) ∧ 122 < (s[k].toNat : Int) ∧ ((k : Int) == 0) = false ∧ ((s[k].toNat : Int) != 95) = true ∧ 48 ≤ (s[k].toNat : Int) ∧ 57 < (s[k].toNat : Int)) := by
          have : ¬ ((97 ≤ s[k].toNat ∧ s[k].toNat ≤ 122) ∨ (0 < k ∧ ((48 ≤ s[k].toNat ∧ s[k].toNat ≤ 57) ∨ s[k].toNat = 95))) := fun h => hn (decide_eq_true h)
          simp
          omega
        clear hn E
        have hd : 122 < (s[k].toNat : Int) → decide ((s[k].toNat : Int) ≤ 122) = false := fun h => by simp; omega
        rcases hn' with ⟨h1, h2⟩ | ⟨h1, h2, h3⟩ | ⟨h1, h2, h3, h4⟩ | ⟨h1, h2, h3, h4, h5⟩ | ⟨h1, h2, h3, h4, h5, h6⟩
        all_goals
          try replace h2 := hd h2
          clear hd
          go_wp2
          go_ret
          exact ⟨ret_bool HE.out, rfl⟩
    · obtain rfl : k = s.size := by omega
      have HE : Hid (true = r) := Lib.hid (by have := HK.out; rw [chars_end] at this; exact this)
      go_wp2
      go_ret
      exact ⟨ret_bool HE.out, rfl⟩

set_option maxRecDepth 100000 in
set_option maxHeartbeats 4000000 in
theorem rmay_any (k : Nat) (n : Int) (t : ByteArray) (w : World) (h1 : -9223372036854775808 ≤ n) (h2 : n ≤ 9223372036854775807) (ht : t.size ≤ 9223372036854775807) :
    Calls Tryd.prog 60 #[val k n t] w fun e w' => e = .returned (.bool (mayV k n t)) ∧ Below w.heap.size w w' := by
  have hT : t.size = 0 ∨ (t.size ≠ 0 ∧ ¬ t.toList = [] ∧ t.toList.isEmpty = false) := by
    by_cases h : t.size = 0
    · exact .inl h
    · exact .inr ⟨h, bytes_ne h, bytes_emp h⟩
  by_cases k0 : k = 0
  · subst k0
    by_cases n0 : n = 0
    · subst n0
      rcases hT with t0 | ⟨t0, t1, t2⟩
      · have E := Lib.hid (show mayV 0 0 t = true by rw [mayV0]; simp [t0])
        obtain rfl := bytes_nil t0
        clear t0
        go_enter Tryd.func60, Tryd.ntmps60
        go_wp2
        go_ret
        exact ⟨ret_bool E.out.symm, (Below.refl _ _).alloc (Nat.le_refl _) _⟩
      · have E := Lib.hid (show mayV 0 0 t = false by rw [mayV0]; simp [t0])
        clear t0
        go_enter Tryd.func60, Tryd.ntmps60
        go_wp2
        go_ret
        exact ⟨ret_bool E.out.symm, (Below.refl _ _).alloc (Nat.le_refl _) _⟩
    · have E := Lib.hid (show mayV 0 n t = false by rw [mayV0]; simp [n0])
      have n1 : (n == 0) = false := by simpa using n0
      clear n0 hT
      go_enter Tryd.func60, Tryd.ntmps60
      go_wp2
      go_ret
      exact ⟨ret_bool E.out.symm, (Below.refl _ _).alloc (Nat.le_refl _) _⟩
  by_cases k1 : k = 1
  · subst k1
    rcases hT with t0 | ⟨t0, t1, t2⟩
    · have E := Lib.hid (show mayV 1 n t = true by rw [mayV1]; simp [t0])
      obtain rfl := bytes_nil t0
      clear t0 k0
      go_enter Tryd.func60, Tryd.ntmps60
      go_wp2
      go_ret
      exact ⟨ret_bool E.out.symm, (Below.refl _ _).alloc (Nat.le_refl _) _⟩
    · have E := Lib.hid (show mayV 1 n t = false by rw [mayV1]; simp [t0])
      clear t0 k0
      go_enter Tryd.func60, Tryd.ntmps60
      go_wp2
      go_ret
      exact ⟨ret_bool E.out.symm, (Below.refl _ _).alloc (Nat.le_refl _) _⟩
  by_cases k2 : k = 2
  · subst k2
    clear k0 k1
    by_cases n0 : n = 0 ∨ n = 1
    · rcases hT with t0 | ⟨t0, t1, t2⟩
      · have E := Lib.hid (show mayV 2 n t = true by rw [mayV2]; simp [t0, n0])
        obtain rfl := bytes_nil t0
        clear t0
        rcases n0 with rfl | rfl
        all_goals
          go_enter Tryd.func60, Tryd.ntmps60
          go_wp2
          go_ret
          exact ⟨ret_bool E.out.symm, (Below.refl _ _).alloc (Nat.le_refl _) _⟩
      · have E := Lib.hid (show mayV 2 n t = false by rw [mayV2]; simp [t0])
        clear t0
        rcases n0 with rfl | rfl
        all_goals
          go_enter Tryd.func60, Tryd.ntmps60
          go_wp2
          go_ret
          exact ⟨ret_bool E.out.symm, (Below.refl _ _).alloc (Nat.le_refl _) _⟩
    · have E := Lib.hid (show mayV 2 n t = false by rw [mayV2]; simp [n0])
      have m1 : (n == 0) = false := by simp; omega
      have m2 : (n == 1) = false := by simp; omega
      clear n0 hT
      go_enter Tryd.func60, Tryd.ntmps60
      go_wp2
      go_ret
      exact ⟨ret_bool E.out.symm, (Below.refl _ _).alloc (Nat.le_refl _) _⟩
  have q0 : ((k : Int) == 0) = false := int_ne k0
  have q1 : ((k : Int) == 1) = false := int_ne k1
  have q2 : ((k : Int) == 2) = false := int_ne k2
  by_cases k3 : k = 3
  · subst k3
    clear k0 k1 k2 q0 q1 q2 hT
    have E0 : mayV 3 n t = (plainsFrom t.data.toList 0 t.size && decide (n = 0 ∧ t.size ≤ 40)) := by
      rw [mayV3, plainB, Bool.decide_and]
      cases plainsFrom t.data.toList 0 t.size <;> simp
    rw [E0]
    obtain ⟨r, hrr⟩ : ∃ r, plainsFrom t.data.toList 0 t.size = r := ⟨_, rfl⟩
    rw [hrr]
    have HR := Lib.hid hrr
    clear hrr E0
    go_enter Tryd.func60, Tryd.ntmps60
    go_wp2
    go_loop [3] (fun i => ∃ k : Nat, k ≤ t.size ∧ i = .int .i64 k ∧ Hid (plainsFrom t.data.toList k (t.size - k) = r)) (fun i => t.size - (intOf i).toNat)
    case atStart => exact ⟨0, Nat.zero_le _, rfl, HR⟩
    case round =>
      obtain ⟨k, hk, rfl, HK⟩ := hrel
      by_cases hlt : k < t.size
      · have E := plains_at t.data.toList k t.size hlt
        rw [getD_idx t k hlt] at E
        have E := Lib.hid E
        have hc256 : t[k].toNat < 256 := UInt8.toNat_lt _
        by_cases hn : plainC t[k].toNat = true
        · have HE : Hid (plainsFrom t.data.toList (k + 1) (t.size - (k + 1)) = r) := Lib.hid (by have := HK.out; rw [E.out, hn, Bool.true_and] at this; exact this)
          have hn' := of_decide_eq_true hn
          have h1 : 32 ≤ (t[k].toNat : Int) := by omega
          have h2 : (t[k].toNat : Int) ≤ 126 := by omega
          have h3 : ((t[k].toNat : Int) == 39) = false := by simp; omega
          clear hn E hn'
          go_wp2
          go_round
          case rel => exact ⟨k + 1, by omega, by go_num, HE⟩
          case measure => simp [intOf]; omega
        · have HE : Hid (false = r) := Lib.hid (by have := HK.out; rw [E.out, eq_false_of_ne_true hn, Bool.false_and] at this; exact this)
          have hn' : (t[k].toNat : Int) < 32 ∨ (32 ≤ (t[k].toNat : Int) ∧ 126 < (t[k].toNat : Int)) ∨ (32 ≤ (t[k].toNat : Int) ∧ (t[k].toNat : Int) ≤ 126 ∧ ((t[k].toNat : Int) == 39) = true) := by
            have : ¬ (32 ≤ t[k].toNat ∧ t[k].toNat ≤ 126 ∧ t[k].toNat ≠ 39) := fun h => hn (decide_eq_true h)
            simp
            omega
          clear hn E
          rcases hn' with h1 | ⟨h1, h2⟩ | ⟨h1, h2, h3⟩
          all_goals
            go_wp2
            go_ret
            exact ⟨ret_bool (by rw [← HE.out, Bool.false_and]), (Below.refl _ _).alloc (Nat.le_refl _) _⟩
      · obtain rfl : k = t.size := by omega
        have HE : Hid (true = r) := Lib.hid (by have := HK.out; rw [plains_end] at this; exact this)
        by_cases n0 : n = 0
        · subst n0
          go_wp2
          go_ret
          exact ⟨ret_iff (by rw [← HE.out, Bool.true_and]; simp; omega), (Below.refl _ _).alloc (Nat.le_refl _) _⟩
        · have n1 : (n == 0) = false := by simpa using n0
          go_wp2
          go_ret
          exact ⟨ret_iff Iff.rfl, (Below.refl _ _).alloc (Nat.le_refl _) _⟩
  · have q3 : ((k : Int) == 3) = false := int_ne k3
    have E := Lib.hid (show mayV k n t = false by simp [mayV, k0, k1, k2, k3])
    clear k0 k1 k2 k3 hT
    go_enter Tryd.func60, Tryd.ntmps60
    go_wp2
    go_ret
    exact ⟨ret_bool E.out.symm, (Below.refl _ _).alloc (Nat.le_refl _) _⟩
end Go.Proofs.YtdnelpmolenkoaaDoor
