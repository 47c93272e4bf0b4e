/- What wire's Reader.Num, Left, End and Int return, and what they do to the reader. Conditions: the bytes are not too many. -/
import Derived.Test.YtlflkmigfggdjaaWireRd
namespace Go.Proofs.Ytlflkmigfggdjaa
open Go.RowKit Go.Ow Go.Wi

theorem scan_le (most : Nat) : ∀ (l : List UInt8) (i n m : Nat) (l' : List UInt8), scan most i n l = .ok (m, l') → m ≤ most ∧ l'.length < l.length
  | [], i, n, m, l', h => by simp [scan] at h
  | b :: l, i, n, m, l', h => by
    rw [scan] at h
    split at h
    · cases h
    · split at h
      · have := scan_le most l _ _ _ _ h
        exact ⟨this.1, by simp; omega⟩
      · split at h
        · cases h
        · cases h
          exact ⟨by omega, by simp⟩
theorem scan_err (most : Nat) : ∀ (l : List UInt8) (i n c : Nat), scan most i n l = .error c → c = 4 ∨ c = 8
  | [], i, n, c, h => by simp [scan] at h; omega
  | b :: l, i, n, c, h => by
    rw [scan] at h
    split at h
    · cases h; exact Or.inl rfl
    · split at h
      · exact scan_err most l _ _ _ h
      · split at h
        · cases h; exact Or.inl rfl
        · cases h

theorem box_facts {w : World} {b : Nat} {t t' : TypeId} {x y u : Value} (h : Two w b t x y) : Two (w.alloc (.cells #[u] t')) b t x y ∧ (w.alloc (.cells #[u] t')).cell? ⟨w.heap.size, 0, none⟩ = some u :=
  ⟨h.keptB ((Below.refl _ _).alloc (Nat.le_refl _) _) h.lt, by simp⟩

set_option maxHeartbeats 1000000 in
theorem numW_any (b : Nat) (r : Rs) (w : World) (hr : RdW w b r) (hl : r.l.length ≤ 1000000) :
    Calls Try.prog 25 #[ptr b] w fun e w' => e = .returned (.tuple #[.int .i64 (r.num 1099511627776).1.1, .int .i64 (r.num 1099511627776).1.2]) ∧ But b w w' ∧ RdW w' b (r.num 1099511627776).2 := by
  obtain ⟨l, c⟩ := r
  have hr' : Two w b 67 (str l) (.int .i64 c) := hr
  clear hr
  obtain ⟨k1, k2⟩ := box_facts (t' := 37) (u := ptr b) hr'
  have K1 := Lib.hid k1
  by_cases hc : c = 0
  · subst hc
    cases hs : scan 1099511627776 0 0 l with
    | error c =>
      have e1 : (Rs.mk l 0).num 1099511627776 = ((0, c), ⟨[], c⟩) := by simp [Rs.num, hs]
      have hcl := (num46_err w.heap.size b l c (w.alloc (.cells #[ptr b] 37)) hl k2 k1.c0 (k1.fz 0) hs).mono (R' := fun e w' => e = .returned (.tuple #[.int .i64 0, .int .i64 c]) ∧ But b (w.alloc (.cells #[ptr b] 37)) w' ∧ ∃ y, Two w' b 67 y (.int .i64 0)) (by rintro e w' ⟨rfl, rfl⟩; exact ⟨rfl, But.refl _ _, _, K1.out⟩)
      have H := Lib.hid (readNum_err b c #[ptr w.heap.size] 0 _ _ (by have := scan_err _ _ _ _ _ hs; omega) K1.out hcl)
      have E1 := Lib.hid e1
      clear e1 hcl hs k1 k2 hl
      go_enter Try.func25, Try.ntmps25
      go_wp2_with (go_at_call 45; refine H.out.mono ?_; rintro e w' ⟨rfl, hb, h2⟩)
      go_ret2
      rw [E1.out]
      exact ⟨rfl, (But.alloc b w _).trans hb, h2⟩
    | ok p =>
      obtain ⟨n, l'⟩ := p
      have e1 : (Rs.mk l 0).num 1099511627776 = ((n, 0), ⟨l', 0⟩) := by simp [Rs.num, hs]
      have hcl := (num46_ok w.heap.size b l n l' (w.alloc (.cells #[ptr b] 37)) hl k2 k1.c0 (k1.fz 0) hs (scan_le _ _ _ _ _ _ hs).1).mono (R' := fun e w' => e = .returned (.tuple #[.int .i64 n, .int .i64 0]) ∧ But b (w.alloc (.cells #[ptr b] 37)) w' ∧ Two w' b 67 (str l') (.int .i64 0)) (by rintro e w' ⟨rfl, rfl⟩; exact ⟨rfl, But.setCell _ _ _ _, K1.out.set0 _⟩)
      have H := Lib.hid (readNum_ok b #[ptr w.heap.size] n l' _ _ K1.out hcl)
      have E1 := Lib.hid e1
      clear e1 hcl hs k1 k2 hl
      go_enter Try.func25, Try.ntmps25
      go_wp2_with (go_at_call 45; refine H.out.mono ?_; rintro e w' ⟨rfl, hb, h2⟩)
      go_ret2
      rw [E1.out]
      exact ⟨rfl, (But.alloc b w _).trans hb, h2⟩
  · have e1 : (Rs.mk l c).num 1099511627776 = ((0, c), ⟨l, c⟩) := by simp [Rs.num, hc]
    have H := Lib.hid (readNum_bad b c #[ptr w.heap.size] _ (w.alloc (.cells #[ptr b] 37)) hc K1.out)
    have E1 := Lib.hid e1
    clear e1 k1 k2 hl
    go_enter Try.func25, Try.ntmps25
    go_wp2_with (go_at_call 45; refine H.out.mono ?_; rintro e w' ⟨rfl, n, rfl⟩)
    go_ret2
    rw [E1.out]
    exact ⟨rfl, (But.alloc b w _).trans (But.drewN _ _ _), K1.out.drewN _⟩
end Go.Proofs.Ytlflkmigfggdjaa
