/- What value.May returns. Conditions: lengths are lengths. -/
import Derived.Test.YtjakdbahopbggaaGreatDoorZK05
import Derived.Deep.QuietTactic
import Derived.BigQuiet
import Derived.Deep.RegionWith
section
namespace Go.Proofs.YtjakdbahopbggaaGreatDoor
open Go.RowKit Go.Ow

abbrev val (k : Nat) (n : Int) (t : ByteArray) : Value := .agg #[.int .u8 k, .int .i64 n, .string t]
def plainC (c : Nat) : Bool := decide (32 ≤ c ∧ c ≤ 126 ∧ c ≠ 39)
/-- the letters from k on, m of them, are plain -/
def plainsFrom (l : List UInt8) : Nat → Nat → Bool
  | _, 0 => true
  | k, m + 1 => plainC (l.getD k 0).toNat && plainsFrom l (k + 1) m
theorem plains_at (l : List UInt8) (k n : Nat) (h : k < n) : plainsFrom l k (n - k) = (plainC (l.getD k 0).toNat && plainsFrom l (k + 1) (n - (k + 1))) := by
  have : n - k = n - (k + 1) + 1 := by omega
  rw [this, plainsFrom]
theorem plains_end (l : List UInt8) (n : Nat) : plainsFrom l n (n - n) = true := by rw [Nat.sub_self, plainsFrom]
def plainB (t : ByteArray) : Bool := plainsFrom t.data.toList 0 t.size && decide (t.size ≤ 40)
theorem getD_idx (s : ByteArray) (k : Nat) (h : k < s.size) : s.data.toList.getD k 0 = s[k] := by
  have e : k < s.data.toList.length := by simpa using h
  rw [List.getD_eq_getElem?_getD, List.getElem?_eq_getElem e]
  rfl

set_option maxRecDepth 100000 in
set_option maxHeartbeats 1000000 in
theorem plain_any (s : ByteArray) (w : World) (hs : s.size ≤ 9223372036854775807) :
    Calls Tryz.prog 131 #[.string s] w fun e w' => e = .returned (.bool (plainB s)) ∧ w = w' := by
  unfold plainB
  obtain ⟨r, hrr⟩ : ∃ r, plainsFrom s.data.toList 0 s.size = r := ⟨_, rfl⟩
  rw [hrr]
  have HR := Lib.hid hrr
  clear hrr
  go_enter Tryz.func131, Tryz.ntmps131
  go_wp2
  go_loop [6] (fun i => ∃ k : Nat, k ≤ s.size ∧ i = .int .i64 k ∧ Hid (plainsFrom s.data.toList k (s.size - k) = r)) (fun i => s.size - (intOf i).toNat)
  case atStart => exact ⟨0, Nat.zero_le _, rfl, HR⟩
  case round =>
    obtain ⟨k, hk, rfl, HK⟩ := hrel
    by_cases hlt : k < s.size
    · have E := plains_at s.data.toList k s.size hlt
      rw [getD_idx s k hlt] at E
      have E := Lib.hid E
      have hc256 : s[k].toNat < 256 := UInt8.toNat_lt _
      by_cases hn : plainC s[k].toNat = true
      · have HE : Hid (plainsFrom s.data.toList (k + 1) (s.size - (k + 1)) = r) := Lib.hid (by have := HK.out; rw [E.out, hn, Bool.true_and] at this; exact this)
        have hn' := of_decide_eq_true hn
        have h1 : 32 ≤ (s[k].toNat : Int) := by omega
        have h2 : (s[k].toNat : Int) ≤ 126 := by omega
        have h3 : ((s[k].toNat : Int) == 39) = false := by simp; omega
        clear hn E hn'
        go_wp2
        go_round
        case rel => exact ⟨k + 1, by omega, by go_num, HE⟩
        case measure => simp [intOf]; omega
      · have HE : Hid (false = r) := Lib.hid (by have := HK.out; rw [E.out, eq_false_of_ne_true hn, Bool.false_and] at this; exact this)
        have hn' : (s[k].toNat : Int) < 32 ∨ (32 ≤ (s[k].toNat : Int) ∧ 126 < (s[k].toNat : Int)) ∨ (32 ≤ (s[k].toNat : Int) ∧ (s[k].toNat : Int) ≤ 126 ∧ ((s[k].toNat : Int) == 39) = true) := by
          have : ¬ (32 ≤ s[k].toNat ∧ s[k].toNat ≤ 126 ∧ s[k].toNat ≠ 39) := fun h => hn (decide_eq_true h)
          simp
          omega
        clear hn E
        rcases hn' with h1 | ⟨h1, h2⟩ | ⟨h1, h2, h3⟩
        all_goals
          go_wp2
          go_ret
          exact ⟨ret_bool (by rw [← HE.out, Bool.false_and]), rfl⟩
    · obtain rfl : k = s.size := by omega
      have HE : Hid (true = r) := Lib.hid (by have := HK.out; rw [plains_end] at this; exact this)
      go_wp2
      go_ret
      exact ⟨ret_bool (by rw [← HE.out, Bool.true_and]; exact decide_eq_decide.2 (by omega)), rfl⟩

theorem num_any (n : Int) (w : World) : Calls Tryz.prog 128 #[.int .i64 n] w fun e w' => e = .returned (val 1 n ⟨#[]⟩) ∧ Below w.heap.size w w' := by
  go_enter Tryz.func128, Tryz.ntmps128
  go_wp2
  exact bodyPost_ret (v := val 1 n ⟨#[]⟩) (by simp [results, Tryz.results128, go_sem]) rfl ⟨rfl, (Below.refl _ _).alloc (Nat.le_refl _) _⟩
theorem textv_any (t : ByteArray) (w : World) : Calls Tryz.prog 130 #[.string t] w fun e w' => e = .returned (val 3 0 t) ∧ Below w.heap.size w w' := by
  go_enter Tryz.func130, Tryz.ntmps130
  go_wp2
  exact bodyPost_ret (v := val 3 0 t) (by simp [results, Tryz.results130, go_sem]) rfl ⟨rfl, (Below.refl _ _).alloc (Nat.le_refl _) _⟩
theorem truth_any (b : Bool) (w : World) : Calls Tryz.prog 129 #[.bool b] w fun e w' => e = .returned (val 2 (if b then 1 else 0) ⟨#[]⟩) ∧ Below w.heap.size w w' := by
  cases b
  · go_enter Tryz.func129, Tryz.ntmps129
    go_wp2
    exact bodyPost_ret (v := val 2 0 ⟨#[]⟩) (by simp [results, Tryz.results129, go_sem]) rfl ⟨rfl, ((Below.refl _ _).alloc (Nat.le_refl _) _).alloc (by simp) _⟩
  · go_enter Tryz.func129, Tryz.ntmps129
    go_wp2
    exact bodyPost_ret (v := val 2 1 ⟨#[]⟩) (by simp [results, Tryz.results129, go_sem]) rfl ⟨rfl, ((Below.refl _ _).alloc (Nat.le_refl _) _).alloc (by simp) _⟩

/-- may a value be? -/
def mayV (k : Nat) (n : Int) (t : ByteArray) : Bool :=
  decide (k = 0 ∧ n = 0 ∧ t.size = 0) || (decide (k = 1 ∧ t.size = 0) || (decide (k = 2 ∧ (n = 0 ∨ n = 1) ∧ t.size = 0) || (decide (k = 3 ∧ n = 0) && plainB t)))
end Go.Proofs.YtjakdbahopbggaaGreatDoor
end
/- What value.May returns. Conditions: lengths are lengths. -/
section
namespace Go.Proofs.YtjakdbahopbggaaGreatDoor
open Go.RowKit Go.Ow

theorem bcell {W w1 : World} (hb : Below W.heap.size W w1) : (∀ b o, b < W.heap.size → w1.cell? ⟨b, o, none⟩ = W.cell? ⟨b, o, none⟩) ∧ (∀ b o, b < W.heap.size → w1.frozen? ⟨b, o, none⟩ = W.frozen? ⟨b, o, none⟩) :=
  ⟨fun b o h => hb.cell (p := ⟨b, o, none⟩) h, fun b o h => hb.frozen (p := ⟨b, o, none⟩) h⟩
theorem Below.drewN {w : World} (B n : Nat) : Below B w (w.drewN n) := ⟨rfl, rfl, rfl, Nat.le_refl _, fun _ _ => rfl⟩
theorem below_step {w a b : World} (h : Below w.heap.size w a) (k : Below a.heap.size a b) : Below w.heap.size w b := h.trans (k.mono h.size)
theorem mayV0 (n : Int) (t : ByteArray) : mayV 0 n t = decide (n = 0 ∧ t.size = 0) := by simp [mayV]
theorem mayV1 (n : Int) (t : ByteArray) : mayV 1 n t = decide (t.size = 0) := by simp [mayV]
theorem mayV2 (n : Int) (t : ByteArray) : mayV 2 n t = decide ((n = 0 ∨ n = 1) ∧ t.size = 0) := by simp [mayV]
theorem mayV3 (n : Int) (t : ByteArray) : mayV 3 n t = (decide (n = 0) && plainB t) := by simp [mayV]

set_option maxRecDepth 100000 in
set_option maxHeartbeats 4000000 in
theorem may_0 (n : Int) (t : ByteArray) (w : World) (h1 : -9223372036854775808 ≤ n) (h2 : n ≤ 9223372036854775807) (ht : t.size ≤ 9223372036854775807) :
    Calls Tryz.prog 107 #[val 0 n t] w fun e w' => e = .returned (.bool (mayV 0 n t)) ∧ Below w.heap.size w w' := by
  rw [mayV0]
  have HB := Lib.hid (fun o => (Below.refl w.heap.size w).alloc (Nat.le_refl _) o)
  by_cases t0 : t.size = 0
  · obtain rfl := bytes_nil t0
    by_cases n0 : n = 0
    · subst n0
      go_enter Tryz.func107, Tryz.ntmps107
      go_wp2
      go_ret
      exact ⟨rfl, HB.out _⟩
    · go_enter Tryz.func107, Tryz.ntmps107
      go_wp2
      go_ret
      exact ⟨ret_bool (by simp [n0]), HB.out _⟩
  · have e1 := bytes_ne t0
    go_enter Tryz.func107, Tryz.ntmps107
    go_wp2
    all_goals
      go_ret
      exact ⟨ret_bool (by simp [t0]), HB.out _⟩
set_option maxRecDepth 100000 in
set_option maxHeartbeats 4000000 in
theorem may_1 (n : Int) (t : ByteArray) (w : World) (ht : t.size ≤ 9223372036854775807) :
    Calls Tryz.prog 107 #[val 1 n t] w fun e w' => e = .returned (.bool (mayV 1 n t)) ∧ Below w.heap.size w w' := by
  rw [mayV1]
  by_cases t0 : t.size = 0
  · obtain rfl := bytes_nil t0
    go_enter Tryz.func107, Tryz.ntmps107
    go_wp2
    go_region_with (go_at_call 128; refine (num_any _ _).mono ?_; rintro e w1 ⟨rfl, hb⟩; obtain ⟨hc, hf⟩ := bcell hb)
    all_goals
      go_wp2
      go_ret
      exact ⟨rfl, below_step ((Below.refl _ _).alloc (Nat.le_refl _) _).drew hb⟩
  · have e1 := bytes_ne t0
    go_enter Tryz.func107, Tryz.ntmps107
    go_wp2
    go_region_with (go_at_call 128; refine (num_any _ _).mono ?_; rintro e w1 ⟨rfl, hb⟩; obtain ⟨hc, hf⟩ := bcell hb)
    all_goals
      go_wp2
      go_ret
      exact ⟨ret_bool (by simp [t0]), below_step ((Below.refl _ _).alloc (Nat.le_refl _) _).drew hb⟩
set_option maxRecDepth 100000 in
set_option maxHeartbeats 4000000 in
theorem may_2 (n : Int) (t : ByteArray) (w : World) (h1 : -9223372036854775808 ≤ n) (h2 : n ≤ 9223372036854775807) (ht : t.size ≤ 9223372036854775807) :
    Calls Tryz.prog 107 #[val 2 n t] w fun e w' => e = .returned (.bool (mayV 2 n t)) ∧ Below w.heap.size w w' := by
  rw [mayV2]
  by_cases t0 : t.size = 0
  · obtain rfl := bytes_nil t0
    by_cases n0 : n = 0
    · subst n0
      go_enter Tryz.func107, Tryz.ntmps107
      go_wp2
      go_region_with (go_at_call 129; refine (truth_any false _).mono ?_; rintro e w1 ⟨rfl, hb⟩; obtain ⟨hc, hf⟩ := bcell hb)
      all_goals
        go_wp2
        go_ret
        exact ⟨rfl, below_step ((Below.refl _ _).alloc (Nat.le_refl _) _).drew hb⟩
    · have n1 : (n != 0) = true := by simpa using n0
      have n2 : (n == 0) = false := by simpa using n0
      by_cases n3 : n = 1
      · subst n3
        go_enter Tryz.func107, Tryz.ntmps107
        go_wp2
        go_region_with (go_at_call 129; refine (truth_any true _).mono ?_; rintro e w1 ⟨rfl, hb⟩; obtain ⟨hc, hf⟩ := bcell hb)
        all_goals
          go_wp2
          go_ret
          exact ⟨rfl, below_step ((Below.refl _ _).alloc (Nat.le_refl _) _).drew hb⟩
      · go_enter Tryz.func107, Tryz.ntmps107
        go_wp2
        go_region_with (go_at_call 129; refine (truth_any true _).mono ?_; rintro e w1 ⟨rfl, hb⟩; obtain ⟨hc, hf⟩ := bcell hb)
        all_goals
          go_wp2
          go_ret
          exact ⟨ret_bool (by simp [n0, n3]), below_step ((Below.refl _ _).alloc (Nat.le_refl _) _).drew hb⟩
  · have e1 := bytes_ne t0
    by_cases n0 : n = 0
    · subst n0
      go_enter Tryz.func107, Tryz.ntmps107
      go_wp2
      go_region_with (go_at_call 129; refine (truth_any false _).mono ?_; rintro e w1 ⟨rfl, hb⟩; obtain ⟨hc, hf⟩ := bcell hb)
      all_goals
        go_wp2
        go_ret
        exact ⟨ret_bool (by simp [t0]), below_step ((Below.refl _ _).alloc (Nat.le_refl _) _).drew hb⟩
    · have n1 : (n != 0) = true := by simpa using n0
      have n2 : (n == 0) = false := by simpa using n0
      go_enter Tryz.func107, Tryz.ntmps107
      go_wp2
      go_region_with (go_at_call 129; refine (truth_any true _).mono ?_; rintro e w1 ⟨rfl, hb⟩; obtain ⟨hc, hf⟩ := bcell hb)
      all_goals
        go_wp2
        go_ret
        exact ⟨ret_bool (by simp [t0]), below_step ((Below.refl _ _).alloc (Nat.le_refl _) _).drew hb⟩
end Go.Proofs.YtjakdbahopbggaaGreatDoor
end
/- What value.May returns. Conditions: lengths are lengths. -/
section
namespace Go.Proofs.YtjakdbahopbggaaGreatDoor
open Go.RowKit Go.Ow

set_option maxRecDepth 100000 in
set_option maxHeartbeats 4000000 in
theorem may_3 (n : Int) (t : ByteArray) (w : World) (h1 : -9223372036854775808 ≤ n) (h2 : n ≤ 9223372036854775807) (ht : t.size ≤ 9223372036854775807) :
    Calls Tryz.prog 107 #[val 3 n t] w fun e w' => e = .returned (.bool (mayV 3 n t)) ∧ Below w.heap.size w w' := by
  rw [mayV3]
  by_cases n0 : n = 0
  · subst n0
    go_enter Tryz.func107, Tryz.ntmps107
    go_wp2
    go_region_with (first | (go_at_call 130; refine (textv_any _ _).mono ?_; rintro e w1 ⟨rfl, hb⟩; obtain ⟨hc, hf⟩ := bcell hb) | (go_at_call 131; refine (plain_any _ _ ht).mono ?_; rintro e w2 ⟨rfl, rfl⟩))
    all_goals
      go_wp2
      go_ret
      exact ⟨ret_bool (by simp), below_step ((Below.refl _ _).alloc (Nat.le_refl _) _).drew hb⟩
  · have n2 : (n == 0) = false := by simpa using n0
    go_enter Tryz.func107, Tryz.ntmps107
    go_wp2
    first | (go_region_with (go_at_call 130; refine (textv_any _ _).mono ?_; rintro e w1 ⟨rfl, hb⟩; obtain ⟨hc, hf⟩ := bcell hb)) | fail
    all_goals
      go_wp2
      go_ret
      exact ⟨ret_bool (by simp [n0]), below_step ((Below.refl _ _).alloc (Nat.le_refl _) _).drew hb⟩
theorem may_any (k : Nat) (n : Int) (t : ByteArray) (w : World) (h1 : -9223372036854775808 ≤ n) (h2 : n ≤ 9223372036854775807) (ht : t.size ≤ 9223372036854775807) :
    Calls Tryz.prog 107 #[val k n t] w fun e w' => e = .returned (.bool (mayV k n t)) ∧ Below w.heap.size w w' := by
  by_cases k0 : k = 0
  · subst k0; exact may_0 n t w h1 h2 ht
  by_cases k1 : k = 1
  · subst k1; exact may_1 n t w ht
  by_cases k2 : k = 2
  · subst k2; exact may_2 n t w h1 h2 ht
  by_cases k3 : k = 3
  · subst k3; exact may_3 n t w h1 h2 ht
  have e : mayV k n t = false := by simp [mayV, k0, k1, k2, k3]
  rw [e]
  have k0' : ((k : Int) == 0) = false := by simp; omega
  have k1' : ((k : Int) == 1) = false := by simp; omega
  have k2' : ((k : Int) == 2) = false := by simp; omega
  have k3' : ((k : Int) == 3) = false := by simp; omega
  clear e k0 k1 k2 k3
  go_enter Tryz.func107, Tryz.ntmps107
  go_wp2
  go_ret
  exact ⟨rfl, (Below.refl _ _).alloc (Nat.le_refl _) _⟩
end Go.Proofs.YtjakdbahopbggaaGreatDoor
end
/- What model.Vars returns: its closures, slices.IndexFunc and ContainsFunc over variables. Conditions: the tables as laid; lengths are lengths. -/
section
namespace Go.Proofs.YtjakdbahopbggaaGreatDoor
open Go.RowKit Go.Ow

/-- a variable -/
structure Va where
  nm : ByteArray
  k : Nat
  n : Int
  t : ByteArray
def Va.fit (v : Va) : Prop := v.nm.size ≤ 9223372036854775807 ∧ v.k < 256 ∧ -9223372036854775808 ≤ v.n ∧ v.n ≤ 9223372036854775807 ∧ v.t.size ≤ 9223372036854775807
abbrev varA (a : ByteArray) (k : Nat) (n : Int) (t : ByteArray) : Value := .agg #[.string a, .int .u8 k, .int .i64 n, .string t]
def varOk (v : Va) : Bool := isName v.nm && (mayV v.k v.n v.t && decide (v.k ≠ 0))

theorem vars2_any (a : ByteArray) (k : Nat) (n : Int) (t : ByteArray) (w : World) :
    Calls Tryz.prog 109 #[varA a k n t] w fun e w' => e = .returned (.string a) ∧ Below w.heap.size w w' := by
  go_enter Tryz.func109, Tryz.ntmps109
  go_wp2
  go_ret
  exact ⟨rfl, (Below.refl _ _).alloc (Nat.le_refl _) _⟩
set_option maxHeartbeats 1000000 in
theorem vars1_any {A : Nat → Nat × Nat} (a : ByteArray) (k : Nat) (n : Int) (t : ByteArray) (w : World) (hG : Gl A w) (hv : (Va.mk a k n t).fit) :
    Calls Tryz.prog 106 #[varA a k n t] w fun e w' => e = .returned (.bool (varOk ⟨a, k, n, t⟩)) ∧ Below w.heap.size w w' := by
  obtain ⟨ha, hk, h1, h2, ht⟩ := hv
  simp only at ha hk h1 h2 ht
  obtain ⟨o, ho⟩ : ∃ o : Obj, o = .cells #[.string a, .int .u8 k, .int .i64 n, .string t] 148 := ⟨_, rfl⟩
  have HG := Lib.hid (hG.below ((Below.refl _ _).alloc (Nat.le_refl _) o))
  have NM := name_any a (w.alloc o) HG.out ha
  rw [ho] at NM HG
  clear ho hG
  unfold varOk
  simp only
  cases hn : isName a
  · rw [hn] at NM
    have NM := Lib.hid NM
    clear hn
    go_enter Tryz.func106, Tryz.ntmps106
    go_wp2_with (go_at_call 90; refine NM.out.mono ?_; rintro e w1 ⟨rfl, hb⟩)
    go_ret
    exact ⟨rfl, below_step ((Below.refl _ _).alloc (Nat.le_refl _) _) hb⟩
  · rw [hn] at NM
    have NM := Lib.hid NM
    clear hn
    have MM := fun w1 => may_any k n t w1 h1 h2 ht
    cases hm : mayV k n t
    · rw [hm] at MM
      have MM := Lib.hid MM
      clear hm
      go_enter Tryz.func106, Tryz.ntmps106
      go_wp2_with (first | (go_at_call 90; refine NM.out.mono ?_; rintro e w1 ⟨rfl, hb⟩; obtain ⟨hc, hf⟩ := bcell hb; have HB := Lib.hid hb; clear hb) | (go_at_call 107; refine (MM.out _).mono ?_; rintro e w2 ⟨rfl, hb2⟩))
      go_ret
      exact ⟨rfl, below_step (below_step ((Below.refl _ _).alloc (Nat.le_refl _) _) HB.out) hb2⟩
    · rw [hm] at MM
      have MM := Lib.hid MM
      clear hm
      go_enter Tryz.func106, Tryz.ntmps106
      go_wp2_with (first | (go_at_call 90; refine NM.out.mono ?_; rintro e w1 ⟨rfl, hb⟩; obtain ⟨hc, hf⟩ := bcell hb; have HB := Lib.hid hb; have hz1 : w.heap.size < w1.heap.size := (by have := hb.size; simp at this; omega); clear hb) | (go_at_call 107; refine (MM.out _).mono ?_; rintro e w2 ⟨rfl, hb2⟩; obtain ⟨hc2, hf2⟩ := bcell hb2; have HB2 := Lib.hid hb2; clear hb2))
      go_ret
      exact ⟨ret_bool (by rw [Bool.true_and, Bool.true_and, Bool.eq_iff_iff]; simp), below_step (below_step ((Below.refl _ _).alloc (Nat.le_refl _) _) HB.out) HB2.out⟩
end Go.Proofs.YtjakdbahopbggaaGreatDoor
end
