/- What slices.Index and Contains (of texts, of bytes), model.Name, Event, ScopeNode and Activity return. Conditions: the two tables are as they are laid; lengths are lengths. -/
import Derived.Test.YtblebjgjomamdaaDoorGl
import Derived.Test.YtblebjgjomamdaaDoorOwn
import Derived.Test.YtblebjgjomamdaaDoorBut
namespace Go.Proofs.YtblebjgjomamdaaDoor
open Go.RowKit Go.Ow

theorem ret_bool {a b : Bool} (h : a = b) : Ending.returned (.bool a) = .returned (.bool b) := by rw [h]
theorem ret_int {k : IntKind} {a b : Int} (h : a = b) : Ending.returned (.int k a) = .returned (.int k b) := by rw [h]
theorem bytes_ne {t : ByteArray} (h : t.size ≠ 0) : t.toList ≠ [] := by
  rw [ByteArray.toList_eq]
  intro e
  apply h
  show t.data.size = 0
  simpa using congrArg List.length e
theorem bytes_nil {t : ByteArray} (h : t.size = 0) : t = ⟨#[]⟩ := by
  apply ByteArray.ext
  exact Array.eq_empty_of_size_eq_zero h
theorem bytes_emp {t : ByteArray} (h : t.size ≠ 0) : t.toList.isEmpty = false := by
  have := bytes_ne h
  cases hh : t.toList with
  | nil => exact absurd hh this
  | cons a l => rfl
theorem toList_ne {a b : ByteArray} (h : a ≠ b) : ¬ a.toList = b.toList := by
  intro e
  rw [ByteArray.toList_eq, ByteArray.toList_eq] at e
  exact h (ByteArray.ext (Array.ext' e))
theorem toList_beq {a b : ByteArray} (h : a ≠ b) : (a.toList == b.toList) = false := by simp [toList_ne h]

/-- the first place from k on, of m, at which p is true; else -1 -/
def fI (p : Nat → Bool) : Nat → Nat → Int
  | _, 0 => -1
  | k, m + 1 => if p k then k else fI p (k + 1) m
theorem fI_at (p : Nat → Bool) (k n : Nat) (h : k < n) : fI p k (n - k) = if p k then (k : Int) else fI p (k + 1) (n - (k + 1)) := by
  have : n - k = n - (k + 1) + 1 := by omega
  rw [this, fI]
theorem fI_end (p : Nat → Bool) (n : Nat) : fI p n (n - n) = -1 := by rw [Nat.sub_self, fI]
theorem fI_nonneg (p : Nat → Bool) : ∀ m k, 0 ≤ fI p k m ↔ ∃ j, k ≤ j ∧ j < k + m ∧ p j = true
  | 0, k => by simp [fI]; omega
  | m + 1, k => by
    rw [fI]
    split
    · rename_i h
      exact ⟨fun _ => ⟨k, Nat.le_refl _, by omega, h⟩, fun _ => by omega⟩
    · rename_i h
      rw [fI_nonneg p m (k + 1)]
      constructor
      · rintro ⟨j, h1, h2, h3⟩
        exact ⟨j, by omega, by omega, h3⟩
      · rintro ⟨j, h1, h2, h3⟩
        by_cases e : j = k
        · rw [e] at h3; exact absurd h3 h
        · exact ⟨j, by omega, by omega, h3⟩
/-- is p true somewhere below n? -/
def anyB (p : Nat → Bool) (n : Nat) : Bool := decide (0 ≤ fI p 0 n)
theorem anyB_true {p : Nat → Bool} {n : Nat} : anyB p n = true ↔ ∃ j, j < n ∧ p j = true := by
  unfold anyB
  rw [decide_eq_true_eq, fI_nonneg]
  constructor
  · rintro ⟨j, _, h2, h3⟩; exact ⟨j, by omega, h3⟩
  · rintro ⟨j, h2, h3⟩; exact ⟨j, by omega, by omega, h3⟩

/-- the cells of a slice of texts, of bytes -/
def Ss (w : World) (o : Option Addr) (n : Nat) (f : Nat → ByteArray) : Prop := ∀ k, k < n → ∃ b off, o = some ⟨b, off, none⟩ ∧ b < w.heap.size ∧ w.cell? ⟨b, off + k, none⟩ = some (.string (f k))
theorem Ss.below {w wr : World} {o : Option Addr} {n : Nat} {f : Nat → ByteArray} (h : Ss w o n f) (hb : Below w.heap.size w wr) : Ss wr o n f := fun k hk => by
  obtain ⟨b, off, h1, h2, h3⟩ := h k hk
  exact ⟨b, off, h1, Nat.lt_of_lt_of_le h2 hb.size, by rw [hb.cell (p := ⟨b, off + k, none⟩) h2]; exact h3⟩
def Us (w : World) (o : Option Addr) (n : Nat) (f : Nat → Nat) : Prop := ∀ k, k < n → ∃ b off, o = some ⟨b, off, none⟩ ∧ b < w.heap.size ∧ w.cell? ⟨b, off + k, none⟩ = some (.int .u8 (f k))

theorem index_str (o : Option Addr) (n cap : Nat) (f : Nat → ByteArray) (v : ByteArray) (w : World) (h : Ss w o n f) (hn : n ≤ 9223372036854775807) :
    Calls Tryd.prog 84 #[.slice o n cap, .string v] w fun e w' => e = .returned (.int .i64 (fI (fun k => decide (f k = v)) 0 n)) ∧ w = w' := by
  have H := Lib.hid h
  clear h
  obtain ⟨r, hr⟩ : ∃ r, fI (fun k => decide (f k = v)) 0 n = r := ⟨_, rfl⟩
  rw [hr]
  have HR := Lib.hid hr
  clear hr
  go_enter Tryd.func84, Tryd.ntmps84
  go_wp2
  go_loop [8] (fun i => ∃ k : Nat, k ≤ n ∧ i = .int .i64 k ∧ Hid (fI (fun k => decide (f k = v)) k (n - k) = r)) (fun i => n - (intOf i).toNat)
  case atStart => exact ⟨0, Nat.zero_le _, rfl, HR⟩
  case round =>
    obtain ⟨k, hk, rfl, HK⟩ := hrel
    by_cases hlt : k < n
    · obtain ⟨b, off, rfl, hb, hcell⟩ := H.out k hlt
      have E := Lib.hid (fI_at (fun k => decide (f k = v)) k n hlt)
      by_cases hv : f k = v
      · have HE : Hid ((k : Int) = r) := Lib.hid (by have := HK.out; rw [E.out] at this; simpa [hv] using this)
        rw [hv] at hcell
        clear hv E
        go_wp2
        go_ret
        exact ⟨ret_int HE.out, rfl⟩
      · have HE : Hid (fI (fun k => decide (f k = v)) (k + 1) (n - (k + 1)) = r) := Lib.hid (by have := HK.out; rw [E.out] at this; simpa [hv] using this)
        obtain ⟨u, hu⟩ : ∃ u, f k = u := ⟨_, rfl⟩
        rw [hu] at hcell hv
        have n1 := toList_ne (Ne.symm hv)
        have n2 := toList_beq (Ne.symm hv)
        clear hu hv E
        go_wp2
        go_round
        case rel => exact ⟨k + 1, by omega, by go_num, HE⟩
        case measure => simp [intOf]; omega
    · obtain rfl : k = n := by omega
      have HE : Hid (-1 = r) := Lib.hid (by have := HK.out; rw [fI_end] at this; exact this)
      go_wp2
      go_ret
      exact ⟨ret_int HE.out, rfl⟩
theorem contains_str (o : Option Addr) (n cap : Nat) (f : Nat → ByteArray) (v : ByteArray) (w : World) (h : Ss w o n f) (hn : n ≤ 9223372036854775807) :
    Calls Tryd.prog 51 #[.slice o n cap, .string v] w fun e w' => e = .returned (.bool (anyB (fun k => decide (f k = v)) n)) ∧ w = w' := by
  have H := Lib.hid (index_str o n cap f v w h hn)
  unfold anyB
  clear h
  obtain ⟨r, hr⟩ : ∃ r, fI (fun k => decide (f k = v)) 0 n = r := ⟨_, rfl⟩
  rw [hr] at H ⊢
  clear hr
  go_enter Tryd.func51, Tryd.ntmps51
  go_wp2_with (go_at_call 84; refine H.out.mono ?_; rintro e w' ⟨rfl, rfl⟩)
  go_ret
  exact ⟨rfl, rfl⟩
theorem index_u8 (o : Option Addr) (n cap : Nat) (f : Nat → Nat) (v : Nat) (w : World) (h : Us w o n f) (hn : n ≤ 9223372036854775807) :
    Calls Tryd.prog 103 #[.slice o n cap, .int .u8 v] w fun e w' => e = .returned (.int .i64 (fI (fun k => decide (f k = v)) 0 n)) ∧ w = w' := by
  have H := Lib.hid h
  clear h
  obtain ⟨r, hr⟩ : ∃ r, fI (fun k => decide (f k = v)) 0 n = r := ⟨_, rfl⟩
  rw [hr]
  have HR := Lib.hid hr
  clear hr
  go_enter Tryd.func103, Tryd.ntmps103
  go_wp2
  go_loop [8] (fun i => ∃ k : Nat, k ≤ n ∧ i = .int .i64 k ∧ Hid (fI (fun k => decide (f k = v)) k (n - k) = r)) (fun i => n - (intOf i).toNat)
  case atStart => exact ⟨0, Nat.zero_le _, rfl, HR⟩
  case round =>
    obtain ⟨k, hk, rfl, HK⟩ := hrel
    by_cases hlt : k < n
    · obtain ⟨b, off, rfl, hb, hcell⟩ := H.out k hlt
      have E := Lib.hid (fI_at (fun k => decide (f k = v)) k n hlt)
      by_cases hv : f k = v
      · have HE : Hid ((k : Int) = r) := Lib.hid (by have := HK.out; rw [E.out] at this; simpa [hv] using this)
        rw [hv] at hcell
        clear hv E
        go_wp2
        go_ret
        exact ⟨ret_int HE.out, rfl⟩
      · have HE : Hid (fI (fun k => decide (f k = v)) (k + 1) (n - (k + 1)) = r) := Lib.hid (by have := HK.out; rw [E.out] at this; simpa [hv] using this)
        obtain ⟨u, hu⟩ : ∃ u, f k = u := ⟨_, rfl⟩
        rw [hu] at hcell hv
        have n1 : ¬ (v : Int) = u := by omega
        have n2 : ((v : Int) == u) = false := by simpa using n1
        clear hu hv E
        go_wp2
        go_round
        case rel => exact ⟨k + 1, by omega, by go_num, HE⟩
        case measure => simp [intOf]; omega
    · obtain rfl : k = n := by omega
      have HE : Hid (-1 = r) := Lib.hid (by have := HK.out; rw [fI_end] at this; exact this)
      go_wp2
      go_ret
      exact ⟨ret_int HE.out, rfl⟩
theorem contains_u8 (o : Option Addr) (n cap : Nat) (f : Nat → Nat) (v : Nat) (w : World) (h : Us w o n f) (hn : n ≤ 9223372036854775807) :
    Calls Tryd.prog 91 #[.slice o n cap, .int .u8 v] w fun e w' => e = .returned (.bool (anyB (fun k => decide (f k = v)) n)) ∧ w = w' := by
  have H := Lib.hid (index_u8 o n cap f v w h hn)
  unfold anyB
  clear h
  obtain ⟨r, hr⟩ : ∃ r, fI (fun k => decide (f k = v)) 0 n = r := ⟨_, rfl⟩
  rw [hr] at H ⊢
  clear hr
  go_enter Tryd.func91, Tryd.ntmps91
  go_wp2_with (go_at_call 103; refine H.out.mono ?_; rintro e w' ⟨rfl, rfl⟩)
  go_ret
  exact ⟨rfl, rfl⟩
end Go.Proofs.YtblebjgjomamdaaDoor
