/- What value.May returns. Conditions: lengths are lengths. -/
import Derived.Test.YtblebjgjomamdaaDoorMName2
import Derived.Deep.QuietTactic
import Derived.BigQuiet
import Derived.Deep.RegionWith
namespace Go.Proofs.YtblebjgjomamdaaDoor
open Go.RowKit Go.Ow

abbrev val (k : Nat) (n : Int) (t : ByteArray) : Value := .agg #[.int .u8 k, .int .i64 n, .string t]
def plainC (c : Nat) : Bool := decide (32 ≤ c ∧ c ≤ 126 ∧ c ≠ 39)
/-- the letters from k on, m of them, are plain -/
def plainsFrom (l : List UInt8) : Nat → Nat → Bool
  | _, 0 => true
  | k, m + 1 => plainC (l.getD k 0).toNat && plainsFrom l (k + 1) m
theorem plains_at (l : List UInt8) (k n : Nat) (h : k < n) : plainsFrom l k (n - k) = (plainC (l.getD k 0).toNat && plainsFrom l (k + 1) (n - (k + 1))) := by
  have : n - k = n - (k + 1) + 1 := by omega
  rw [this, plainsFrom]
theorem plains_end (l : List UInt8) (n : Nat) : plainsFrom l n (n - n) = true := by rw [Nat.sub_self, plainsFrom]
def plainB (t : ByteArray) : Bool := plainsFrom t.data.toList 0 t.size && decide (t.size ≤ 40)
theorem getD_idx (s : ByteArray) (k : Nat) (h : k < s.size) : s.data.toList.getD k 0 = s[k] := by
  have e : k < s.data.toList.length := by simpa using h
  rw [List.getD_eq_getElem?_getD, List.getElem?_eq_getElem e]
  rfl

set_option maxRecDepth 100000 in
set_option maxHeartbeats 1000000 in
theorem plain_any (s : ByteArray) (w : World) (hs : s.size ≤ 9223372036854775807) :
    Calls Tryd.prog 88 #[.string s] w fun e w' => e = .returned (.bool (plainB s)) ∧ w = w' := by
  unfold plainB
  obtain ⟨r, hrr⟩ : ∃ r, plainsFrom s.data.toList 0 s.size = r := ⟨_, rfl⟩
  rw [hrr]
  have HR := Lib.hid hrr
  clear hrr
  go_enter Tryd.func88, Tryd.ntmps88
  go_wp2
  go_loop [6] (fun i => ∃ k : Nat, k ≤ s.size ∧ i = .int .i64 k ∧ Hid (plainsFrom s.data.toList k (s.size - k) = r)) (fun i => s.size - (intOf i).toNat)
  case atStart => exact ⟨0, Nat.zero_le _, rfl, HR⟩
  case round =>
    obtain ⟨k, hk, rfl, HK⟩ := hrel
    by_cases hlt : k < s.size
    · have E := plains_at s.data.toList k s.size hlt
      rw [getD_idx s k hlt] at E
      have E := Lib.hid E
      have hc256 : s[k].toNat < 256 := UInt8.toNat_lt _
      by_cases hn : plainC s[k].toNat = true
      · have HE : Hid (plainsFrom s.data.toList (k + 1) (s.size - (k + 1)) = r) := Lib.hid (by have := HK.out; rw [E.out, hn, Bool.true_and] at this; exact this)
        have hn' := of_decide_eq_true hn
        have h1 : 32 ≤ (s[k].toNat : Int) := by omega
        have h2 : (s[k].toNat : Int) ≤ 126 := by omega
        have h3 : ((s[k].toNat : Int) == 39) = false := by simp; omega
        clear hn E hn'
        go_wp2
        go_round
        case rel => exact ⟨k + 1, by omega, by go_num, HE⟩
        case measure => simp [intOf]; omega
      · have HE : Hid (false = r) := Lib.hid (by have := HK.out; rw [E.out, eq_false_of_ne_true hn, Bool.false_and] at this; exact this)
        have hn' : (s[k].toNat : Int) < 32 ∨ (32 ≤ (s[k].toNat : Int) ∧ 126 < (s[k].toNat : Int)) ∨ (32 ≤ (s[k].toNat : Int) ∧ (s[k].toNat : Int) ≤ 126 ∧ ((s[k].toNat : Int) == 39) = true) := by
          have : ¬ (32 ≤ s[k].toNat ∧ s[k].toNat ≤ 126 ∧ s[k].toNat ≠ 39) := fun h => hn (decide_eq_true h)
          simp
          omega
        clear hn E
        rcases hn' with h1 | ⟨h1, h2⟩ | ⟨h1, h2, h3⟩
        all_goals
          go_wp2
          go_ret
          exact ⟨ret_bool (by rw [← HE.out, Bool.false_and]), rfl⟩
    · obtain rfl : k = s.size := by omega
      have HE : Hid (true = r) := Lib.hid (by have := HK.out; rw [plains_end] at this; exact this)
      go_wp2
      go_ret
      exact ⟨ret_bool (by rw [← HE.out, Bool.true_and]; exact decide_eq_decide.2 (by omega)), rfl⟩

theorem num_any (n : Int) (w : World) : Calls Tryd.prog 85 #[.int .i64 n] w fun e w' => e = .returned (val 1 n ⟨#[]⟩) ∧ Below w.heap.size w w' := by
  go_enter Tryd.func85, Tryd.ntmps85
  go_wp2
  exact bodyPost_ret (v := val 1 n ⟨#[]⟩) (by simp [results, Tryd.results85, go_sem]) rfl ⟨rfl, (Below.refl _ _).alloc (Nat.le_refl _) _⟩
theorem textv_any (t : ByteArray) (w : World) : Calls Tryd.prog 87 #[.string t] w fun e w' => e = .returned (val 3 0 t) ∧ Below w.heap.size w w' := by
  go_enter Tryd.func87, Tryd.ntmps87
  go_wp2
  exact bodyPost_ret (v := val 3 0 t) (by simp [results, Tryd.results87, go_sem]) rfl ⟨rfl, (Below.refl _ _).alloc (Nat.le_refl _) _⟩
theorem truth_any (b : Bool) (w : World) : Calls Tryd.prog 86 #[.bool b] w fun e w' => e = .returned (val 2 (if b then 1 else 0) ⟨#[]⟩) ∧ Below w.heap.size w w' := by
  cases b
  · go_enter Tryd.func86, Tryd.ntmps86
    go_wp2
    exact bodyPost_ret (v := val 2 0 ⟨#[]⟩) (by simp [results, Tryd.results86, go_sem]) rfl ⟨rfl, ((Below.refl _ _).alloc (Nat.le_refl _) _).alloc (by simp) _⟩
  · go_enter Tryd.func86, Tryd.ntmps86
    go_wp2
    exact bodyPost_ret (v := val 2 1 ⟨#[]⟩) (by simp [results, Tryd.results86, go_sem]) rfl ⟨rfl, ((Below.refl _ _).alloc (Nat.le_refl _) _).alloc (by simp) _⟩

/-- may a value be? -/
def mayV (k : Nat) (n : Int) (t : ByteArray) : Bool :=
  decide (k = 0 ∧ n = 0 ∧ t.size = 0) || (decide (k = 1 ∧ t.size = 0) || (decide (k = 2 ∧ (n = 0 ∨ n = 1) ∧ t.size = 0) || (decide (k = 3 ∧ n = 0) && plainB t)))
end Go.Proofs.YtblebjgjomamdaaDoor
