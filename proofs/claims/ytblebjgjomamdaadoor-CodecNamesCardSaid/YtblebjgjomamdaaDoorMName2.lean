/- What model.Name, Event, ScopeNode and Activity return. Conditions: the two tables are as they are laid; lengths are lengths. -/
import Derived.Test.YtblebjgjomamdaaDoorMName
namespace Go.Proofs.YtblebjgjomamdaaDoor
open Go.RowKit Go.Ow

def nameC (i c : Nat) : Bool := decide ((97 ≤ c ∧ c ≤ 122) ∨ (0 < i ∧ ((48 ≤ c ∧ c ≤ 57) ∨ c = 95)))
/-- the letters from k on, m of them -/
def chars (l : List UInt8) : Nat → Nat → Bool
  | _, 0 => true
  | k, m + 1 => nameC k (l.getD k 0).toNat && chars l (k + 1) m
theorem chars_at (l : List UInt8) (k n : Nat) (h : k < n) : chars l k (n - k) = (nameC k (l.getD k 0).toNat && chars l (k + 1) (n - (k + 1))) := by
  have : n - k = n - (k + 1) + 1 := by omega
  rw [this, chars]
theorem chars_end (l : List UInt8) (n : Nat) : chars l n (n - n) = true := by rw [Nat.sub_self, chars]
def resF (k : Nat) : ByteArray := resRow.getD k ⟨#[]⟩
/-- is it one of the words that are no names? -/
def isRes (s : ByteArray) : Bool := anyB (fun k => decide (resF k = s)) 3
def isName (s : ByteArray) : Bool := decide (1 ≤ s.size ∧ s.size ≤ 12) && (!isRes s && chars s.data.toList 0 s.size)

theorem Gl.resS {A : Nat → Nat × Nat} {w : World} (h : Gl A w) : Ss w (some ⟨0, 0, none⟩) 3 resF := fun k hk => by
  obtain ⟨cs, t, h1, h2, h3⟩ := h.res
  refine ⟨0, 0, rfl, (Array.getElem?_eq_some_iff.1 h1).1, ?_⟩
  rw [cell_of_row w _ _ cs t (0, 0) h1, Nat.zero_add]
  apply h3
  have : k = 0 ∨ k = 1 ∨ k = 2 := by omega
  rcases this with rfl | rfl | rfl <;> rfl
theorem bytes_of_str (w : World) (s : ByteArray) (hm : s.size ≤ 9223372036854775807) : ∃ g cap w1, (convert 9 38 (.string s)).run Tryd.prog w = .ok (.slice (some ⟨g, 0, none⟩) s.size cap) w1 ∧ Below w.heap.size w w1 ∧ g < w1.heap.size ∧ ∀ j, j < s.size → w1.cell? ⟨g, j, none⟩ = some (.int .u8 (s.data.toList.getD j 0).toNat) := by
  obtain ⟨v, w1, hconv, hown, hbel, hlt⟩ := owns_of_string (P := Tryd.prog) w 9 38 5 s Tryd.underlying9 Tryd.underlying38 Tryd.underlying5 (by unfold maxLen; exact hm)
  obtain ⟨g, cap, rfl, _, hg, _, _, hc⟩ := hown.cellAt
  refine ⟨g, cap, w1, ?_, hbel, hg, fun j hj => hc j _ ?_⟩
  · rw [hconv]; simp
  · have e : j < s.data.toList.length := by simpa using hj
    rw [List.getElem?_map, List.getElem?_eq_getElem e, List.getD_eq_getElem?_getD, List.getElem?_eq_getElem e]
    rfl

set_option maxRecDepth 100000 in
set_option maxHeartbeats 1000000 in
theorem name_any {A : Nat → Nat × Nat} (s : ByteArray) (w : World) (hG : Gl A w) (hs : s.size ≤ 9223372036854775807) :
    Calls Tryd.prog 32 #[.string s] w fun e w' => e = .returned (.bool (isName s)) ∧ Below w.heap.size w w' := by
  have HC := Lib.hid (contains_str _ 3 3 resF s w hG.resS (by decide))
  clear hG
  unfold isName
  by_cases h0 : s.size = 0
  · have e : (decide (1 ≤ s.size ∧ s.size ≤ 12) && (!isRes s && chars s.data.toList 0 s.size)) = false := by simp [h0]
    rw [e]
    have e0 := bytes_nil h0
    subst e0
    clear e h0
    go_enter Tryd.func32, Tryd.ntmps32
    go_wp2
    go_ret
    exact ⟨rfl, Below.refl _ _⟩
  · have n1 := bytes_ne h0
    have n2 := bytes_emp h0
    by_cases h12 : s.size ≤ 12
    · have hd : decide (1 ≤ s.size ∧ s.size ≤ 12) = true := by simp; omega
      rw [hd, Bool.true_and]
      clear hd
      cases hr : isRes s
      · have HC' : Hid (Calls Tryd.prog 51 #[.slice (some ⟨0, 0, none⟩) 3 3, .string s] w fun e w' => e = .returned (.bool false) ∧ w = w') := Lib.hid (by rw [← hr]; exact HC.out)
        clear hr HC h0
        obtain ⟨g, cap, w1, hconv, hb1, hg, hc1⟩ := bytes_of_str w s hs
        have H1 := Lib.hid hc1
        have HB := Lib.hid hb1
        clear hc1 hb1
        obtain ⟨r, hrr⟩ : ∃ r, chars s.data.toList 0 s.size = r := ⟨_, rfl⟩
        rw [Bool.not_false, Bool.true_and, hrr]
        have HR := Lib.hid hrr
        clear hrr
        go_enter Tryd.func32, Tryd.ntmps32
        go_wp2_with (go_at_call 51; refine HC'.out.mono ?_; rintro e w' ⟨rfl, rfl⟩)
        go_loop [20] (fun i => ∃ k : Nat, k ≤ s.size ∧ i = .int .i64 k ∧ Hid (chars s.data.toList k (s.size - k) = r)) (fun i => s.size - (intOf i).toNat)
        case atStart => exact ⟨0, Nat.zero_le _, rfl, HR⟩
        case round =>
          obtain ⟨k, hk, rfl, HK⟩ := hrel
          by_cases hlt : k < s.size
          · have hcell := H1.out k hlt
            have E := Lib.hid (chars_at s.data.toList k s.size hlt)
            obtain ⟨c, hc⟩ : ∃ c, (s.data.toList.getD k 0).toNat = c := ⟨_, rfl⟩
            have hc256 : c < 256 := by rw [← hc]; exact UInt8.toNat_lt _
            rw [hc] at hcell E
            clear hc
            by_cases hn : nameC k c = true
            · have HE : Hid (chars s.data.toList (k + 1) (s.size - (k + 1)) = r) := Lib.hid (by have := HK.out; rw [E.out, hn, Bool.true_and] at this; exact this)
              have hn' : (97 ≤ c ∧ c ≤ 122) ∨ (0 < k ∧ (48 ≤ c ∧ c ≤ 57)) ∨ (0 < k ∧ c = 95) := by have := of_decide_eq_true hn; omega
              clear hn E
              rcases hn' with ⟨h1, h2⟩ | ⟨h1, h2, h3⟩ | ⟨h1, rfl⟩
              all_goals
                go_wp2
                go_round
                case rel => exact ⟨k + 1, by omega, by go_num, HE⟩
                case measure => simp [intOf]; omega
            · have HE : Hid (false = r) := Lib.hid (by have := HK.out; rw [E.out, eq_false_of_ne_true hn, Bool.false_and] at this; exact this)
              have hn' : (k < 1 ∧ c < 97) ∨ (k < 1 ∧ 122 < c) ∨ (0 < k ∧ c < 48) ∨ (0 < k ∧ 57 < c ∧ c < 95) ∨ (0 < k ∧ c = 96) ∨ (0 < k ∧ 122 < c) := by
                have : ¬ ((97 ≤ c ∧ c ≤ 122) ∨ (0 < k ∧ ((48 ≤ c ∧ c ≤ 57) ∨ c = 95))) := fun h => hn (decide_eq_true h)
                omega
              clear hn E
              rcases hn' with ⟨h1, h2⟩ | ⟨h1, h2⟩ | ⟨h1, h2⟩ | ⟨h1, h2, h3⟩ | ⟨h1, rfl⟩ | ⟨h1, h2⟩
              all_goals
                try (have e95 : ((c : Int) == 95) = false := by simp; omega)
                go_wp2
                go_ret
                exact ⟨ret_bool HE.out, HB.out⟩
          · obtain rfl : k = s.size := by omega
            have HE : Hid (true = r) := Lib.hid (by have := HK.out; rw [chars_end] at this; exact this)
            go_wp2
            go_ret
            exact ⟨ret_bool HE.out, HB.out⟩
      · have HC' : Hid (Calls Tryd.prog 51 #[.slice (some ⟨0, 0, none⟩) 3 3, .string s] w fun e w' => e = .returned (.bool true) ∧ w = w') := Lib.hid (by rw [← hr]; exact HC.out)
        clear hr HC h0
        rw [Bool.not_true, Bool.false_and]
        go_enter Tryd.func32, Tryd.ntmps32
        go_wp2_with (go_at_call 51; refine HC'.out.mono ?_; rintro e w' ⟨rfl, rfl⟩)
        go_ret
        exact ⟨rfl, Below.refl _ _⟩
    · have hd : decide (1 ≤ s.size ∧ s.size ≤ 12) = false := by simp; omega
      rw [hd, Bool.false_and]
      clear hd h0 HC
      go_enter Tryd.func32, Tryd.ntmps32
      go_wp2
      go_ret
      exact ⟨rfl, Below.refl _ _⟩

/-- has a node of that Kind that event? -/
def evB (k e : Nat) : Bool := decide (k < 16) && anyB (fun j => decide ((evRow k).getD j 0 = e)) (evRow k).length
theorem evRow_len (i : Nat) : (evRow i).length ≤ 6 := by
  unfold evRow
  split <;> decide
theorem event_any {A : Nat → Nat × Nat} (k e : Nat) (w : World) (hG : Gl A w) (hk : k < 256) :
    Calls Tryd.prog 56 #[.int .u8 k, .int .u8 e] w fun r w' => r = .returned (.bool (evB k e)) ∧ w = w' := by
  by_cases h16 : k < 16
  · have hd : evB k e = anyB (fun j => decide ((evRow k).getD j 0 = e)) (evRow k).length := by simp [evB, h16]
    rw [hd]
    clear hd
    by_cases h0 : k = 0
    · subst h0
      obtain ⟨cs, t, h1, h2, h3, _⟩ := hG.evs
      have hcell : w.cell? ⟨1, 0, none⟩ = some (.slice none 0 0) := by rw [cell_of_row w _ _ cs t (0, 0) h1]; exact h3
      have HC := Lib.hid (contains_u8 none 0 0 (fun j => (evRow 0).getD j 0) e w (fun k hk => by omega) (by decide))
      have er : (evRow 0).length = 0 := rfl
      rw [er]
      obtain ⟨b, hb⟩ : ∃ b, anyB (fun j => decide ((evRow 0).getD j 0 = e)) 0 = b := ⟨_, rfl⟩
      rw [hb] at HC ⊢
      clear hb er h1 h2 h3 hG hk h16
      go_enter Tryd.func56, Tryd.ntmps56
      go_wp2_with (go_at_call 91; refine HC.out.mono ?_; rintro e w' ⟨rfl, rfl⟩)
      go_ret
      exact ⟨rfl, rfl⟩
    · obtain ⟨cs, t, h1, h2, _, h3⟩ := hG.evs
      have hcell : w.cell? ⟨1, k, none⟩ = some (.slice (some ⟨(A k).1, (A k).2, none⟩) (evRow k).length (evRow k).length) := by rw [cell_of_row w _ _ cs t (0, 0) h1]; exact h3 k (by omega) h16
      obtain ⟨cs', t', h1', h2', h3'⟩ := hG.row k (by omega) h16
      have HC := Lib.hid (contains_u8 (some ⟨(A k).1, (A k).2, none⟩) (evRow k).length (evRow k).length (fun j => (evRow k).getD j 0) e w (fun j hj => ⟨(A k).1, (A k).2, rfl, (Array.getElem?_eq_some_iff.1 h1').1, by
        rw [cell_of_row w _ _ cs' t' (0, 0) h1']
        apply h3'
        show (evRow k)[j]? = some ((evRow k).getD j 0)
        rw [List.getD_eq_getElem?_getD, List.getElem?_eq_getElem hj]; rfl⟩) (by have := evRow_len k; omega))
      obtain ⟨b, hb⟩ : ∃ b, anyB (fun j => decide ((evRow k).getD j 0 = e)) (evRow k).length = b := ⟨_, rfl⟩
      rw [hb] at HC ⊢
      obtain ⟨n, hn⟩ : ∃ n, (evRow k).length = n := ⟨_, rfl⟩
      rw [hn] at HC hcell
      obtain ⟨a, ha⟩ : ∃ a, A k = a := ⟨_, rfl⟩
      rw [ha] at HC hcell
      clear hb hn ha h1 h2 h3 h1' h2' h3' hG
      go_enter Tryd.func56, Tryd.ntmps56
      go_wp2_with (go_at_call 91; refine HC.out.mono ?_; rintro e w' ⟨rfl, rfl⟩)
      go_ret
      exact ⟨rfl, rfl⟩
  · have hd : evB k e = false := by simp [evB, h16]
    rw [hd]
    clear hd hG
    go_enter Tryd.func56, Tryd.ntmps56
    go_wp2
    go_ret
    exact ⟨rfl, rfl⟩

def scopeF (j : Nat) : Nat := [11, 12, 13].getD j 0
def scopeB (k : Nat) : Bool := anyB (fun j => decide (scopeF j = k)) 3
theorem scope_any (k : Nat) (w : World) :
    Calls Tryd.prog 65 #[.int .u8 k] w fun r w' => r = .returned (.bool (scopeB k)) ∧ Below w.heap.size w w' := by
  have HC := Lib.hid (contains_u8 (some ⟨w.heap.size, 0, none⟩) 3 3 scopeF k (w.alloc (.cells #[.int .u8 11, .int .u8 12, .int .u8 13] 5)) (fun j hj => ⟨w.heap.size, 0, rfl, by simp, by
    have : j = 0 ∨ j = 1 ∨ j = 2 := by omega
    rcases this with rfl | rfl | rfl <;> simp [scopeF]⟩) (by decide))
  unfold scopeB
  obtain ⟨b, hb⟩ : ∃ b, anyB (fun j => decide (scopeF j = k)) 3 = b := ⟨_, rfl⟩
  rw [hb] at HC ⊢
  clear hb
  go_enter Tryd.func65, Tryd.ntmps65
  go_wp2_with (go_at_call 91; refine HC.out.mono ?_; rintro e w' ⟨rfl, rfl⟩)
  go_ret
  exact ⟨rfl, (Below.refl _ _).alloc (Nat.le_refl _) _⟩
end Go.Proofs.YtblebjgjomamdaaDoor
