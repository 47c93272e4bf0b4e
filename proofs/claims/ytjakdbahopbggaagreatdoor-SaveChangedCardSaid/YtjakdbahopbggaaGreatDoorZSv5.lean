/- What strings.Compare, the closures that compare a key, and slices.BinarySearchFunc return on rising entries. Conditions: at most 100000 entries. -/
import Derived.Test.YtjakdbahopbggaaGreatDoorZSv4h
import Derived.Lib.Bytealg
import Derived.Deep.LoopGhost
namespace Go.Proofs.YtjakdbahopbggaaGreatDoor
open Go.RowKit Go.Ow Go.Wi

set_option maxRecDepth 100000 in
set_option maxHeartbeats 1000000 in
theorem compare_bytealg (a b : ByteArray) (w : World) : Calls Tryz.prog 74 #[.string a, .string b] w fun e w' => e = .returned (.int .i64 (Lib.compareBytes a.data.toList b.data.toList)) ∧ w' = w := by
  go_enter Tryz.func74, Tryz.ntmps74
  go_wp2
  rw [run_callFunc_extern Tryz.func96 (by kernel_rfl) (by kernel_rfl) (by kernel_rfl) (e := Extern.BytealgCompare.compare) (by kernel_rfl), Lib.run_compareString]
  simp only [Result.andThen]
  rw [Oper.upon_value]
  go_wp2
  go_ret
  exact ⟨rfl, rfl⟩
theorem compare_strings (a b : ByteArray) (w : World) : Calls Tryz.prog 47 #[.string a, .string b] w fun e w' => e = .returned (.int .i64 (Lib.compareBytes a.data.toList b.data.toList)) ∧ w' = w := by
  go_enter Tryz.func47, Tryz.ntmps47
  go_wp2_with (go_at_call 74; refine (compare_bytealg a b _).mono ?_; rintro e w1 ⟨rfl, rfl⟩)
  go_ret
  exact ⟨rfl, rfl⟩
theorem cmpB_spec : ∀ a b : List UInt8, (Lib.compareBytes a b < 0 ↔ a < b) ∧ (Lib.compareBytes a b = 0 ↔ a = b)
  | [], [] => by simp [Lib.compareBytes]
  | [], _ :: _ => by simp [Lib.compareBytes]
  | _ :: _, [] => by simp [Lib.compareBytes]
  | x :: a, y :: b => by
    have ih := cmpB_spec a b
    rw [Lib.compareBytes]
    simp only [List.cons_lt_cons_iff, List.cons.injEq]
    by_cases h1 : x < y
    · rw [if_pos h1]
      have : x ≠ y := fun e => by subst e; exact absurd h1 (UInt8.lt_irrefl _)
      simp [h1, this]
    · rw [if_neg h1]
      by_cases h2 : y < x
      · rw [if_pos h2]
        have : x ≠ y := fun e => by subst e; exact absurd h2 (UInt8.lt_irrefl _)
        simp [h1, this]
      · rw [if_neg h2]
        have : x = y := UInt8.le_antisymm (UInt8.not_lt.1 h2) (UInt8.not_lt.1 h1)
        simp [this, ih.1, ih.2]
theorem cmp_less1 (x : En) (k : List UInt8) (w : World) : Calls Tryz.prog 46 #[.agg #[strL' x.k, strL' x.v], strL' k] w fun e w' => e = .returned (.int .i64 (Lib.compareBytes x.k k)) ∧ Below w.heap.size w w' := by
  have CS := fun (W : World) => compare_strings ⟨x.k.toArray⟩ ⟨k.toArray⟩ W
  simp only at CS
  have HB := Lib.hid ((Below.refl w.heap.size w).alloc (Nat.le_refl _) (.cells #[strL' x.k, strL' x.v] 42))
  go_enter Tryz.func46, Tryz.ntmps46
  go_wp2_with (go_at_call 47; refine (CS _).mono ?_; rintro e w1 ⟨rfl, rfl⟩)
  go_ret
  exact ⟨rfl, HB.out⟩
theorem cmp_search1 (x : En) (k : List UInt8) (w : World) : Calls Tryz.prog 48 #[.agg #[strL' x.k, strL' x.v], strL' k] w fun e w' => e = .returned (.int .i64 (Lib.compareBytes x.k k)) ∧ Below w.heap.size w w' := by
  have CS := fun (W : World) => compare_strings ⟨x.k.toArray⟩ ⟨k.toArray⟩ W
  simp only at CS
  have HB := Lib.hid ((Below.refl w.heap.size w).alloc (Nat.le_refl _) (.cells #[strL' x.k, strL' x.v] 42))
  go_enter Tryz.func48, Tryz.ntmps48
  go_wp2_with (go_at_call 47; refine (CS _).mono ?_; rintro e w1 ⟨rfl, rfl⟩)
  go_ret
  exact ⟨rfl, HB.out⟩
set_option maxHeartbeats 4000000 in
set_option maxRecDepth 100000 in
theorem bs_less1 (o : Option Addr) (c : Nat) (l : List En) (key : List UInt8) (w : World) (h : EnA w o l) (hr : Rise l) (hn : l.length ≤ 100000) :
    Calls Tryz.prog 45 #[.slice o l.length c, strL' key, .func (.func 46) #[] #[]] w fun e w' =>
      e = .returned (.tuple #[.int .i64 (lbN l key : Nat), .bool (hasK l key)]) ∧ Below w.heap.size w w' := by
  have HA := Lib.hid h
  have HL := Lib.hid (hr.lb key)
  have HR := Lib.hid hr
  obtain ⟨p, hp⟩ : ∃ p, lbN l key = p := ⟨_, rfl⟩
  obtain ⟨q, hq⟩ : ∃ q, hasK l key = q := ⟨_, rfl⟩
  rw [hp, hq] at HL ⊢
  clear h hr hp hq
  have hple := HL.out.1
  go_enter Tryz.func45, Tryz.ntmps45
  go_wp2
  go_loopg [9, 10] l.length (fun g A B wr => ∃ lo hi : Nat, A = .int .i64 lo ∧ B = .int .i64 hi ∧ lo ≤ p ∧ p ≤ hi ∧ hi ≤ l.length ∧ hi - lo ≤ g ∧ Hid (Below w.heap.size w wr))
  case atStart => exact ⟨0, l.length, rfl, rfl, Nat.zero_le _, hple, Nat.le_refl _, by omega, Lib.hid (Below.refl _ _)⟩
  case round =>
    obtain ⟨lo, hi, rfl, rfl, h1, h2, h3, h4, HB⟩ := hrel
    by_cases hlt : lo < hi
    · have hm : (lo + hi) / 2 < l.length := by omega
      obtain ⟨x, hx⟩ : ∃ x, l[(lo + hi) / 2]? = some x := ⟨_, List.getElem?_eq_getElem hm⟩
      obtain ⟨b, off, rfl, hb, c0, c1⟩ := (HA.out.below HB.out) _ x hx
      have CM := Lib.hid (cmp_less1 x key wr)
      have hcs := cmpB_spec x.k key
      have hxe : l[(lo + hi) / 2]'hm = x := by rw [List.getElem?_eq_getElem hm] at hx; simpa using hx
      have j1 : (lo + hi) / 2 < p → x.k < key := fun h => by have := HL.out.2.1 _ hm h; rwa [hxe] at this
      have j2 : p ≤ (lo + hi) / 2 → ¬ x.k < key := fun h => by have := HL.out.2.2.1 _ hm h; rwa [hxe] at this
      by_cases hc : Lib.compareBytes x.k key < 0
      · have hpm : (lo + hi) / 2 < p := by
          rcases Nat.lt_or_ge ((lo + hi) / 2) p with h | h
          · exact h
          · exact absurd (hcs.1.1 hc) (j2 h)
        have HJ := Lib.hid hpm
        clear j1 j2 hcs hx hxe
        go_wp2_with (go_at_call 46; refine CM.out.mono ?_; rintro e w1 ⟨rfl, hb1⟩)
        go_roundg (hi - ((lo + hi) / 2 + 1))
        case measure => omega
        case rel => exact ⟨(lo + hi) / 2 + 1, hi, by go_num, rfl, by have := HJ.out; omega, h2, h3, Nat.le_refl _, Lib.hid (below_step HB.out hb1)⟩
      · have hpm : p ≤ (lo + hi) / 2 := by
          rcases Nat.lt_or_ge ((lo + hi) / 2) p with h | h
          · exact absurd (hcs.1.2 (j1 h)) hc
          · exact h
        have HJ := Lib.hid hpm
        clear j1 j2 hcs hx hxe
        go_wp2_with (go_at_call 46; refine CM.out.mono ?_; rintro e w1 ⟨rfl, hb1⟩)
        go_roundg ((lo + hi) / 2 - lo)
        case measure => omega
        case rel => exact ⟨lo, (lo + hi) / 2, rfl, by go_num, h1, HJ.out, by omega, Nat.le_refl _, Lib.hid (below_step HB.out hb1)⟩
    · obtain rfl : lo = p := by omega
      obtain rfl : hi = lo := by omega
      clear h1 h2 hlt
      by_cases hn2 : hi < l.length
      · obtain ⟨x, hx⟩ : ∃ x, l[hi]? = some x := ⟨_, List.getElem?_eq_getElem hn2⟩
        obtain ⟨b, off, rfl, hb, c0, c1⟩ := (HA.out.below HB.out) _ x hx
        have CM := Lib.hid (cmp_less1 x key wr)
        have hcs := (cmpB_spec x.k key).2
        have hxe : l[hi]'hn2 = x := by rw [List.getElem?_eq_getElem hn2] at hx; simpa using hx
        have HQ : Hid (decide (Lib.compareBytes x.k key = 0) = q) := Lib.hid (by
          have := HL.out.2.2.2
          cases q
          · rw [decide_eq_false_iff_not, hcs]
            intro e
            have := this.2 ⟨hn2, by rw [hxe]; exact e⟩
            cases this
          · rw [decide_eq_true_eq, hcs]
            obtain ⟨_, e⟩ := this.1 rfl
            rw [← e, hxe])
        clear hcs hx hxe
        go_wp2_with (go_at_call 46; refine CM.out.mono ?_; rintro e w1 ⟨rfl, hb1⟩)
        go_ret2
        exact ⟨by rw [← HQ.out]; rfl, below_step HB.out hb1⟩
      · have HQ : Hid (false = q) := Lib.hid (by
          have := HL.out.2.2.2
          cases q
          · rfl
          · obtain ⟨h, _⟩ := this.1 rfl
            exact absurd h hn2)
        go_wp2
        go_ret2
        exact ⟨by rw [← HQ.out]; rfl, HB.out⟩
set_option maxHeartbeats 4000000 in
set_option maxRecDepth 100000 in
theorem bs_search1 (o : Option Addr) (c : Nat) (l : List En) (key : List UInt8) (w : World) (h : EnA w o l) (hr : Rise l) (hn : l.length ≤ 100000) :
    Calls Tryz.prog 45 #[.slice o l.length c, strL' key, .func (.func 48) #[] #[]] w fun e w' =>
      e = .returned (.tuple #[.int .i64 (lbN l key : Nat), .bool (hasK l key)]) ∧ Below w.heap.size w w' := by
  have HA := Lib.hid h
  have HL := Lib.hid (hr.lb key)
  have HR := Lib.hid hr
  obtain ⟨p, hp⟩ : ∃ p, lbN l key = p := ⟨_, rfl⟩
  obtain ⟨q, hq⟩ : ∃ q, hasK l key = q := ⟨_, rfl⟩
  rw [hp, hq] at HL ⊢
  clear h hr hp hq
  have hple := HL.out.1
  go_enter Tryz.func45, Tryz.ntmps45
  go_wp2
  go_loopg [9, 10] l.length (fun g A B wr => ∃ lo hi : Nat, A = .int .i64 lo ∧ B = .int .i64 hi ∧ lo ≤ p ∧ p ≤ hi ∧ hi ≤ l.length ∧ hi - lo ≤ g ∧ Hid (Below w.heap.size w wr))
  case atStart => exact ⟨0, l.length, rfl, rfl, Nat.zero_le _, hple, Nat.le_refl _, by omega, Lib.hid (Below.refl _ _)⟩
  case round =>
    obtain ⟨lo, hi, rfl, rfl, h1, h2, h3, h4, HB⟩ := hrel
    by_cases hlt : lo < hi
    · have hm : (lo + hi) / 2 < l.length := by omega
      obtain ⟨x, hx⟩ : ∃ x, l[(lo + hi) / 2]? = some x := ⟨_, List.getElem?_eq_getElem hm⟩
      obtain ⟨b, off, rfl, hb, c0, c1⟩ := (HA.out.below HB.out) _ x hx
      have CM := Lib.hid (cmp_search1 x key wr)
      have hcs := cmpB_spec x.k key
      have hxe : l[(lo + hi) / 2]'hm = x := by rw [List.getElem?_eq_getElem hm] at hx; simpa using hx
      have j1 : (lo + hi) / 2 < p → x.k < key := fun h => by have := HL.out.2.1 _ hm h; rwa [hxe] at this
      have j2 : p ≤ (lo + hi) / 2 → ¬ x.k < key := fun h => by have := HL.out.2.2.1 _ hm h; rwa [hxe] at this
      by_cases hc : Lib.compareBytes x.k key < 0
      · have hpm : (lo + hi) / 2 < p := by
          rcases Nat.lt_or_ge ((lo + hi) / 2) p with h | h
          · exact h
          · exact absurd (hcs.1.1 hc) (j2 h)
        have HJ := Lib.hid hpm
        clear j1 j2 hcs hx hxe
        go_wp2_with (go_at_call 48; refine CM.out.mono ?_; rintro e w1 ⟨rfl, hb1⟩)
        go_roundg (hi - ((lo + hi) / 2 + 1))
        case measure => omega
        case rel => exact ⟨(lo + hi) / 2 + 1, hi, by go_num, rfl, by have := HJ.out; omega, h2, h3, Nat.le_refl _, Lib.hid (below_step HB.out hb1)⟩
      · have hpm : p ≤ (lo + hi) / 2 := by
          rcases Nat.lt_or_ge ((lo + hi) / 2) p with h | h
          · exact absurd (hcs.1.2 (j1 h)) hc
          · exact h
        have HJ := Lib.hid hpm
        clear j1 j2 hcs hx hxe
        go_wp2_with (go_at_call 48; refine CM.out.mono ?_; rintro e w1 ⟨rfl, hb1⟩)
        go_roundg ((lo + hi) / 2 - lo)
        case measure => omega
        case rel => exact ⟨lo, (lo + hi) / 2, rfl, by go_num, h1, HJ.out, by omega, Nat.le_refl _, Lib.hid (below_step HB.out hb1)⟩
    · obtain rfl : lo = p := by omega
      obtain rfl : hi = lo := by omega
      clear h1 h2 hlt
      by_cases hn2 : hi < l.length
      · obtain ⟨x, hx⟩ : ∃ x, l[hi]? = some x := ⟨_, List.getElem?_eq_getElem hn2⟩
        obtain ⟨b, off, rfl, hb, c0, c1⟩ := (HA.out.below HB.out) _ x hx
        have CM := Lib.hid (cmp_search1 x key wr)
        have hcs := (cmpB_spec x.k key).2
        have hxe : l[hi]'hn2 = x := by rw [List.getElem?_eq_getElem hn2] at hx; simpa using hx
        have HQ : Hid (decide (Lib.compareBytes x.k key = 0) = q) := Lib.hid (by
          have := HL.out.2.2.2
          cases q
          · rw [decide_eq_false_iff_not, hcs]
            intro e
            have := this.2 ⟨hn2, by rw [hxe]; exact e⟩
            cases this
          · rw [decide_eq_true_eq, hcs]
            obtain ⟨_, e⟩ := this.1 rfl
            rw [← e, hxe])
        clear hcs hx hxe
        go_wp2_with (go_at_call 48; refine CM.out.mono ?_; rintro e w1 ⟨rfl, hb1⟩)
        go_ret2
        exact ⟨by rw [← HQ.out]; rfl, below_step HB.out hb1⟩
      · have HQ : Hid (false = q) := Lib.hid (by
          have := HL.out.2.2.2
          cases q
          · rfl
          · obtain ⟨h, _⟩ := this.1 rfl
            exact absurd h hn2)
        go_wp2
        go_ret2
        exact ⟨by rw [← HQ.out]; rfl, HB.out⟩
end Go.Proofs.YtjakdbahopbggaaGreatDoor
