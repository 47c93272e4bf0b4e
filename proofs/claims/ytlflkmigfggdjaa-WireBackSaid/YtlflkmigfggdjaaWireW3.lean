/- What wire.Value and the document's Value return. Conditions: the bytes and the text are not too long. -/
import Derived.Test.YtlflkmigfggdjaaWireW2
namespace Go.Proofs.Ytlflkmigfggdjaa
open Go.RowKit Go.Ow Go.Wi

theorem bcell {W w1 : World} (hb : Below W.heap.size W w1) : (∀ b o, b < W.heap.size → w1.cell? ⟨b, o, none⟩ = W.cell? ⟨b, o, none⟩) ∧ (∀ b o, b < W.heap.size → w1.frozen? ⟨b, o, none⟩ = W.frozen? ⟨b, o, none⟩) :=
  ⟨fun b o h => hb.cell (p := ⟨b, o, none⟩) h, fun b o h => hb.frozen (p := ⟨b, o, none⟩) h⟩
theorem ret_pair {a b : ByteArray} (h : a = b) (n : Int) : Ending.returned (.tuple #[.string a, .int .i64 n]) = .returned (.tuple #[.string b, .int .i64 n]) := by rw [h]
theorem encV0 (n : Int) (t : ByteArray) : encV 0 n t = enc 0 := by simp [encV]
theorem encV1 (n : Int) (t : ByteArray) : encV 1 n t = enc 1 ++ enc (zig n) := by simp [encV]
theorem encV2 (n : Int) (t : ByteArray) : encV 2 n t = enc 2 ++ enc n.toNat := by simp [encV]
theorem encV3 (n : Int) (t : ByteArray) : encV 3 n t = enc 3 ++ (enc t.size ++ t.data.toList) := by simp [encV]
theorem may_cases {k : Nat} {n : Int} {t : ByteArray} (h : may k n t = true) : (k = 0 ∧ n = 0 ∧ t.size = 0) ∨ (k = 1 ∧ t.size = 0) ∨ (k = 2 ∧ (n = 0 ∨ n = 1) ∧ t.size = 0) ∨ (k = 3 ∧ n = 0 ∧ t.size ≤ 40) := of_decide_eq_true h

set_option maxHeartbeats 2000000 in
theorem value_no (s : ByteArray) (k : Nat) (n : Int) (t : ByteArray) (w : World) (hk : k < 256) (h1 : -9223372036854775808 ≤ n) (h2 : n ≤ 9223372036854775807) (ht : t.size ≤ 90000) (hm : may k n t = false) :
    Calls Try.prog 13 #[.string s, val k n t] w fun e w' => e = .returned (.tuple #[.string s, .int .i64 4]) ∧ Below w.heap.size w w' := by
  go_enter Try.func13, Try.ntmps13
  go_wp2_with (go_at_call 36; refine (may_any _ _ _ _ hk h1 h2 ht).mono ?_; rintro e w' ⟨rfl, hb⟩)
  go_ret2
  exact ⟨rfl, ((Below.refl _ _).alloc (Nat.le_refl _) _).trans (hb.mono (by simp))⟩

set_option maxHeartbeats 2000000 in
theorem value_yes (s : ByteArray) (k : Nat) (n : Int) (t : ByteArray) (w : World) (hs : s.size ≤ 800000) (h1 : -9223372036854775808 ≤ n) (h2 : n ≤ 9223372036854775807) (hm : may k n t = true) :
    Calls Try.prog 13 #[.string s, val k n t] w fun e w' => e = .returned (.tuple #[.string (cat s (encV k n t)), .int .i64 0]) ∧ Below w.heap.size w w' := by
  have hsz : ∀ m, m < 128 → (cat s (enc m)).size ≤ 800010 := fun m hm => by rw [cat_size, enc_small hm]; simp; omega
  have HS := Lib.hid hsz
  clear hsz
  rcases may_cases hm with ⟨rfl, hn, ht⟩ | ⟨rfl, ht⟩ | ⟨rfl, hn, ht⟩ | ⟨rfl, hn, ht⟩
  · have ht' : t.size ≤ 0 := Nat.le_of_eq ht
    clear ht
    subst hn
    have EV := Lib.hid (encV0 0 t)
    go_enter Try.func13, Try.ntmps13
    go_wp2_with (first
      | (go_at_call 36; refine (may_any 0 0 t _ (by omega) (by omega) (by omega) (by omega)).mono ?_; rintro e w1 ⟨rfl, hb1⟩; obtain ⟨hc1, hf1⟩ := bcell hb1)
      | (go_at_call 34; refine (put_at _ _ 0 _ (by omega) (by omega) (by omega)).mono ?_; rintro e w2 ⟨rfl, hb2⟩; obtain ⟨hc2, hf2⟩ := bcell hb2; have hz2 : w.heap.size < w1.heap.size := by (have := hb1.size; simp at this; omega)))
    go_ret2
    exact ⟨ret_pair (by rw [EV.out]) _, ((Below.refl _ _).alloc (Nat.le_refl _) _).trans ((hb1.mono (by simp)).trans (hb2.mono (by omega)))⟩
  · have ht' : t.size ≤ 0 := Nat.le_of_eq ht
    clear ht
    have EV := Lib.hid (encV1 n t)
    go_enter Try.func13, Try.ntmps13
    go_wp2_with (first
      | (go_at_call 36; refine (may_any 1 n t _ (by omega) (by omega) (by omega) (by omega)).mono ?_; rintro e w1 ⟨rfl, hb1⟩; obtain ⟨hc1, hf1⟩ := bcell hb1; have hz1 : w.heap.size < w1.heap.size := by (have := hb1.size; simp at this; omega))
      | (go_at_call 34; refine (put_at _ _ 1 _ (by omega) (by omega) (by omega)).mono ?_; rintro e w2 ⟨rfl, hb2⟩; obtain ⟨hc2, hf2⟩ := bcell hb2; have hz2 : w1.heap.size ≤ w2.heap.size := hb2.size)
      | (go_at_call 15; refine (int_any _ _ _ (by have := HS.out 1 (by omega); omega) (by omega) (by omega)).mono ?_; rintro e w3 ⟨rfl, hb3⟩))
    go_ret2
    exact ⟨ret_pair (by rw [EV.out, cat_cat]) _, ((Below.refl _ _).alloc (Nat.le_refl _) _).trans ((hb1.mono (by simp)).trans ((hb2.mono (by omega)).trans (hb3.mono (by omega))))⟩
  · have ht' : t.size ≤ 0 := Nat.le_of_eq ht
    clear ht
    obtain ⟨m, rfl⟩ : ∃ m : Nat, n = m := ⟨n.toNat, by omega⟩
    have hm2 : m < 2 := by omega
    clear hn
    have EV := Lib.hid (encV2 m t)
    go_enter Try.func13, Try.ntmps13
    go_wp2_with (first
      | (go_at_call 36; refine (may_any 2 m t _ (by omega) (by omega) (by omega) (by omega)).mono ?_; rintro e w1 ⟨rfl, hb1⟩; obtain ⟨hc1, hf1⟩ := bcell hb1; have hz1 : w.heap.size < w1.heap.size := by (have := hb1.size; simp at this; omega))
      | (go_at_call 34; with_reducible refine (put_at s _ 2 _ (by omega) (by omega) (by omega)).mono ?_; rintro e w2 ⟨rfl, hb2⟩; obtain ⟨hc2, hf2⟩ := bcell hb2; have hz2 : w1.heap.size ≤ w2.heap.size := hb2.size)
      | (go_at_call 34; refine (put_at _ _ m _ (by have := HS.out 2 (by omega); omega) (by omega) (by omega)).mono ?_; rintro e w3 ⟨rfl, hb3⟩))
    go_ret2
    exact ⟨ret_pair (by rw [EV.out, cat_cat]; simp) _, ((Below.refl _ _).alloc (Nat.le_refl _) _).trans ((hb1.mono (by simp)).trans ((hb2.mono (by omega)).trans (hb3.mono (by omega))))⟩
  · subst hn
    have EV := Lib.hid (encV3 0 t)
    go_enter Try.func13, Try.ntmps13
    go_wp2_with (first
      | (go_at_call 36; refine (may_any 3 0 t _ (by omega) (by omega) (by omega) (by omega)).mono ?_; rintro e w1 ⟨rfl, hb1⟩; obtain ⟨hc1, hf1⟩ := bcell hb1; have hz1 : w.heap.size < w1.heap.size := by (have := hb1.size; simp at this; omega))
      | (go_at_call 34; refine (put_at _ _ 3 _ (by omega) (by omega) (by omega)).mono ?_; rintro e w2 ⟨rfl, hb2⟩; obtain ⟨hc2, hf2⟩ := bcell hb2; have hz2 : w1.heap.size ≤ w2.heap.size := hb2.size)
      | (go_at_call 17; refine (text_any _ _ _ (by have := HS.out 3 (by omega); omega) (by omega)).mono ?_; rintro e w3 ⟨rfl, hb3⟩))
    go_ret2
    exact ⟨ret_pair (by rw [EV.out, cat_cat]) _, ((Below.refl _ _).alloc (Nat.le_refl _) _).trans ((hb1.mono (by simp)).trans ((hb2.mono (by omega)).trans (hb3.mono (by omega))))⟩

set_option maxHeartbeats 2000000 in
theorem rvalue_no (s : ByteArray) (k : Nat) (n : Int) (t : ByteArray) (w : World) (hk : k < 256) (h1 : -9223372036854775808 ≤ n) (h2 : n ≤ 9223372036854775807) (ht : t.size ≤ 90000) (hm : may k n t = false) :
    Calls Try.prog 14 #[.string s, val k n t] w fun e w' => e = .returned (.tuple #[.string s, .int .i64 4]) ∧ Below w.heap.size w w' := by
  go_enter Try.func14, Try.ntmps14
  go_wp2_with (go_at_call 37; refine (rmay_any _ _ _ _ hk h1 h2 ht).mono ?_; rintro e w' ⟨rfl, hb⟩)
  go_ret2
  exact ⟨rfl, ((Below.refl _ _).alloc (Nat.le_refl _) _).trans (hb.mono (by simp))⟩

set_option maxHeartbeats 2000000 in
theorem rvalue_yes (s : ByteArray) (k : Nat) (n : Int) (t : ByteArray) (w : World) (hs : s.size ≤ 800000) (h1 : -9223372036854775808 ≤ n) (h2 : n ≤ 9223372036854775807) (hm : may k n t = true) :
    Calls Try.prog 14 #[.string s, val k n t] w fun e w' => e = .returned (.tuple #[.string (cat s (encV k n t)), .int .i64 0]) ∧ Below w.heap.size w w' := by
  have hsz : ∀ m, m < 128 → (cat s (enc m)).size ≤ 800010 := fun m hm => by rw [cat_size, enc_small hm]; simp; omega
  have HS := Lib.hid hsz
  clear hsz
  rcases may_cases hm with ⟨rfl, hn, ht⟩ | ⟨rfl, ht⟩ | ⟨rfl, hn, ht⟩ | ⟨rfl, hn, ht⟩
  · have ht' : t.size ≤ 0 := Nat.le_of_eq ht
    clear ht
    subst hn
    have EV := Lib.hid (encV0 0 t)
    go_enter Try.func14, Try.ntmps14
    go_wp2_with (first
      | (go_at_call 37; refine (rmay_any 0 0 t _ (by omega) (by omega) (by omega) (by omega)).mono ?_; rintro e w1 ⟨rfl, hb1⟩; obtain ⟨hc1, hf1⟩ := bcell hb1)
      | (go_at_call 35; refine (bytes_at _ _ 0 _ (by omega) (by omega) (by omega)).mono ?_; rintro e w2 ⟨rfl, hb2⟩; obtain ⟨hc2, hf2⟩ := bcell hb2; have hz2 : w.heap.size < w1.heap.size := by (have := hb1.size; simp at this; omega)))
    go_ret2
    exact ⟨ret_pair (by rw [EV.out]) _, ((Below.refl _ _).alloc (Nat.le_refl _) _).trans ((hb1.mono (by simp)).trans (hb2.mono (by omega)))⟩
  · have ht' : t.size ≤ 0 := Nat.le_of_eq ht
    clear ht
    have EV := Lib.hid (encV1 n t)
    go_enter Try.func14, Try.ntmps14
    go_wp2_with (first
      | (go_at_call 37; refine (rmay_any 1 n t _ (by omega) (by omega) (by omega) (by omega)).mono ?_; rintro e w1 ⟨rfl, hb1⟩; obtain ⟨hc1, hf1⟩ := bcell hb1; have hz1 : w.heap.size < w1.heap.size := by (have := hb1.size; simp at this; omega))
      | (go_at_call 35; refine (bytes_at _ _ 1 _ (by omega) (by omega) (by omega)).mono ?_; rintro e w2 ⟨rfl, hb2⟩; obtain ⟨hc2, hf2⟩ := bcell hb2; have hz2 : w1.heap.size ≤ w2.heap.size := hb2.size)
      | (go_at_call 16; refine (rint_any _ _ _ (by have := HS.out 1 (by omega); omega) (by omega) (by omega)).mono ?_; rintro e w3 ⟨rfl, hb3⟩))
    go_ret2
    exact ⟨ret_pair (by rw [EV.out, cat_cat]) _, ((Below.refl _ _).alloc (Nat.le_refl _) _).trans ((hb1.mono (by simp)).trans ((hb2.mono (by omega)).trans (hb3.mono (by omega))))⟩
  · have ht' : t.size ≤ 0 := Nat.le_of_eq ht
    clear ht
    obtain ⟨m, rfl⟩ : ∃ m : Nat, n = m := ⟨n.toNat, by omega⟩
    have hm2 : m < 2 := by omega
    clear hn
    have EV := Lib.hid (encV2 m t)
    go_enter Try.func14, Try.ntmps14
    go_wp2_with (first
      | (go_at_call 37; refine (rmay_any 2 m t _ (by omega) (by omega) (by omega) (by omega)).mono ?_; rintro e w1 ⟨rfl, hb1⟩; obtain ⟨hc1, hf1⟩ := bcell hb1; have hz1 : w.heap.size < w1.heap.size := by (have := hb1.size; simp at this; omega))
      | (go_at_call 35; with_reducible refine (bytes_at s _ 2 _ (by omega) (by omega) (by omega)).mono ?_; rintro e w2 ⟨rfl, hb2⟩; obtain ⟨hc2, hf2⟩ := bcell hb2; have hz2 : w1.heap.size ≤ w2.heap.size := hb2.size)
      | (go_at_call 35; refine (bytes_at _ _ m _ (by have := HS.out 2 (by omega); omega) (by omega) (by omega)).mono ?_; rintro e w3 ⟨rfl, hb3⟩))
    go_ret2
    exact ⟨ret_pair (by rw [EV.out, cat_cat]; simp) _, ((Below.refl _ _).alloc (Nat.le_refl _) _).trans ((hb1.mono (by simp)).trans ((hb2.mono (by omega)).trans (hb3.mono (by omega))))⟩
  · subst hn
    have EV := Lib.hid (encV3 0 t)
    go_enter Try.func14, Try.ntmps14
    go_wp2_with (first
      | (go_at_call 37; refine (rmay_any 3 0 t _ (by omega) (by omega) (by omega) (by omega)).mono ?_; rintro e w1 ⟨rfl, hb1⟩; obtain ⟨hc1, hf1⟩ := bcell hb1; have hz1 : w.heap.size < w1.heap.size := by (have := hb1.size; simp at this; omega))
      | (go_at_call 35; refine (bytes_at _ _ 3 _ (by omega) (by omega) (by omega)).mono ?_; rintro e w2 ⟨rfl, hb2⟩; obtain ⟨hc2, hf2⟩ := bcell hb2; have hz2 : w1.heap.size ≤ w2.heap.size := hb2.size)
      | (go_at_call 18; refine (rtext_any _ _ _ (by have := HS.out 3 (by omega); omega) (by omega)).mono ?_; rintro e w3 ⟨rfl, hb3⟩))
    go_ret2
    exact ⟨ret_pair (by rw [EV.out, cat_cat]) _, ((Below.refl _ _).alloc (Nat.le_refl _) _).trans ((hb1.mono (by simp)).trans ((hb2.mono (by omega)).trans (hb3.mono (by omega))))⟩
end Go.Proofs.Ytlflkmigfggdjaa
