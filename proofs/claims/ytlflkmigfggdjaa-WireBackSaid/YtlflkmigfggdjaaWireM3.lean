/- What wire's Reader.Text returns, and what it does to the reader. Conditions: the bytes are not too many. -/
import Derived.Test.YtlflkmigfggdjaaWireM2
import Derived.RegionTactic
import Derived.ChangeAlike
import Derived.Outline
namespace Go.Proofs.Ytlflkmigfggdjaa
open Go.RowKit Go.Ow Go.Wi

set_option maxHeartbeats 1000000 in
theorem readText_er (b c : Nat) (caps : Array Value) (v : ByteArray) (x : Value) (w : World) (hc : c ≠ 0) (h : Two w b 67 x (.int .i64 0))
    (hcl : Calls Try.prog 42 caps w fun e w' => e = .returned (.tuple #[.string v, .int .i64 c]) ∧ But b w w' ∧ ∃ y z, Two w' b 67 y z) :
    Calls Try.prog 41 #[ptr b, .func (Fn.func 42) #[] caps] w fun e w' => e = .returned (.tuple #[str [], .int .i64 c]) ∧ But b w w' ∧ Two w' b 67 (str []) (.int .i64 c) := by
  have h1 := h.c1
  clear h
  have HC := Lib.hid hc
  have hc' : ((c : Int) == 0) = false := by rw [beq_eq_false_iff_ne]; omega
  have hc'' : ((c : Int) != 0) = true := by rw [bne_iff_ne]; omega
  clear hc
  go_enter Try.func41, Try.ntmps41
  go_wp2_with (go_at_call 42; refine hcl.mono ?_; rintro e w1 ⟨rfl, hb, y, z, h2⟩; have k0 := h2.c0; have k1 := h2.c1; have f0 := h2.fz 0; have f1 := h2.fz 1)
  go_ret2
  exact ⟨rfl, (hb.trans (But.setCell b _ 0 _)).trans (But.setCell b _ 1 _), (h2.set0 _).set1 _⟩

theorem numW_err (b : Nat) (l : List UInt8) (c : Nat) (w : World) (hr : Two w b 67 (str l) (.int .i64 0)) (hl : l.length ≤ 1000000) (h : scan 1099511627776 0 0 l = .error c) :
    Calls Try.prog 25 #[ptr b] w fun e w' => e = .returned (.tuple #[.int .i64 0, .int .i64 c]) ∧ But b w w' ∧ Two w' b 67 (str []) (.int .i64 c) := by
  refine (numW_any b ⟨l, 0⟩ w hr hl).mono ?_
  intro e w' hp
  have e1 : (Rs.mk l 0).num 1099511627776 = ((0, c), ⟨[], c⟩) := by simp [Rs.num, h]
  rw [e1] at hp
  exact hp
theorem numW_ok (b : Nat) (l : List UInt8) (n : Nat) (l' : List UInt8) (w : World) (hr : Two w b 67 (str l) (.int .i64 0)) (hl : l.length ≤ 1000000) (h : scan 1099511627776 0 0 l = .ok (n, l')) :
    Calls Try.prog 25 #[ptr b] w fun e w' => e = .returned (.tuple #[.int .i64 n, .int .i64 0]) ∧ But b w w' ∧ Two w' b 67 (str l') (.int .i64 0) := by
  refine (numW_any b ⟨l, 0⟩ w hr hl).mono ?_
  intro e w' hp
  have e1 : (Rs.mk l 0).num 1099511627776 = ((n, 0), ⟨l', 0⟩) := by simp [Rs.num, h]
  rw [e1] at hp
  exact hp

/-- a captured variable: one cell, not the reader's -/
structure Cap (w : World) (B b : Nat) (u : Value) : Prop where
  cell : w.cell? ⟨B, 0, none⟩ = some u
  lt : B < w.heap.size
  ne : B ≠ b
theorem Cap.kept {w w' : World} {B b : Nat} {u : Value} (h : Cap w B b u) (k : But b w w') : Cap w' B b u := ⟨by rw [k.cell h.lt h.ne]; exact h.cell, Nat.lt_of_lt_of_le h.lt k.size, h.ne⟩

set_option maxHeartbeats 1000000 in
theorem text42_err1 (B M b : Nat) (l : List UInt8) (c : Nat) (w : World) (hs : l.length ≤ 1000000) (hB : Cap w B b (ptr b)) (hr : Two w b 67 (str l) (.int .i64 0)) (h : scan 1099511627776 0 0 l = .error c) :
    Calls Try.prog 42 #[ptr B, ptr M] w fun e w' => e = .returned (.tuple #[str [], .int .i64 c]) ∧ But b w w' ∧ ∃ y z, Two w' b 67 y z := by
  have hc : c ≠ 0 := by have := scan_err _ _ _ _ _ h; omega
  have hc'' : ((c : Int) != 0) = true := by rw [bne_iff_ne]; omega
  have H := Lib.hid (numW_err b l c w hr hs h)
  have hb := hB.cell
  clear h hc hB hr
  go_enter Try.func42, Try.ntmps42
  go_wp2_with (go_at_call 25; refine H.out.mono ?_; rintro e w1 ⟨rfl, hb, h2⟩)
  go_ret2
  exact ⟨rfl, hb, _, _, h2⟩

set_option maxHeartbeats 1000000 in
theorem text42_err2 (B M b : Nat) (most : Int) (l l' : List UInt8) (n : Nat) (w : World) (hs : l.length ≤ 1000000) (hB : Cap w B b (ptr b)) (hM : Cap w M b (.int .i64 most)) (hr : Two w b 67 (str l) (.int .i64 0)) (h : scan 1099511627776 0 0 l = .ok (n, l')) (hm : most < n) :
    Calls Try.prog 42 #[ptr B, ptr M] w fun e w' => e = .returned (.tuple #[str [], .int .i64 40]) ∧ But b w w' ∧ ∃ y z, Two w' b 67 y z := by
  have H := Lib.hid (numW_ok b l n l' w hr hs h)
  have HM := Lib.hid hM
  have hb := hB.cell
  have hn : n ≤ 1099511627776 := (scan_le _ _ _ _ _ _ h).1
  clear h hB hM hr
  go_enter Try.func42, Try.ntmps42
  go_wp2_with (go_at_call 25; refine H.out.mono ?_; rintro e w1 ⟨rfl, hb, h2⟩; have m1 := (HM.out.kept hb).cell)
  go_ret2
  exact ⟨rfl, hb, _, _, h2⟩

set_option maxHeartbeats 1000000 in
theorem text42_err3 (B M b : Nat) (most : Int) (l l' : List UInt8) (n : Nat) (w : World) (hs : l.length ≤ 1000000) (hB : Cap w B b (ptr b)) (hM : Cap w M b (.int .i64 most)) (hr : Two w b 67 (str l) (.int .i64 0)) (h : scan 1099511627776 0 0 l = .ok (n, l')) (hm : (n : Int) ≤ most) (hn' : l'.length < n) :
    Calls Try.prog 42 #[ptr B, ptr M] w fun e w' => e = .returned (.tuple #[str [], .int .i64 8]) ∧ But b w w' ∧ ∃ y z, Two w' b 67 y z := by
  have H := Lib.hid (numW_ok b l n l' w hr hs h)
  have HM := Lib.hid hM
  have HB := Lib.hid hB
  have hb := hB.cell
  have hn : n ≤ 1099511627776 := (scan_le _ _ _ _ _ _ h).1
  have hsz := size_mk l'
  clear h hB hM hr
  go_enter Try.func42, Try.ntmps42
  go_wp2_with (go_at_call 25; refine H.out.mono ?_; rintro e w1 ⟨rfl, hb, h2⟩; have m1 := (HM.out.kept hb).cell; have b1 := (HB.out.kept hb).cell; have r1 := h2.c0)
  go_ret2
  exact ⟨rfl, hb, _, _, h2⟩
theorem ext_take (l : List UInt8) (n : Nat) : (⟨l.toArray⟩ : ByteArray).extract 0 n = ⟨(l.take n).toArray⟩ := by
  apply ByteArray.ext
  apply Array.toList_inj.1
  rw [ByteArray.data_extract, Array.toList_extract, List.extract_eq_take_drop]
  simp
theorem ext_drop' (l : List UInt8) (n : Nat) : (⟨l.toArray⟩ : ByteArray).extract n l.length = ⟨(l.drop n).toArray⟩ := by
  have := ext_drop ⟨l.toArray⟩ n
  rw [size_mk] at this
  exact this.symm

set_option maxHeartbeats 1000000 in
theorem text42_ok (B M b : Nat) (most : Int) (l l' : List UInt8) (n : Nat) (w : World) (hs : l.length ≤ 1000000) (hB : Cap w B b (ptr b)) (hM : Cap w M b (.int .i64 most)) (hr : Two w b 67 (str l) (.int .i64 0)) (h : scan 1099511627776 0 0 l = .ok (n, l')) (hm : (n : Int) ≤ most) (hn' : n ≤ l'.length) :
    Calls Try.prog 42 #[ptr B, ptr M] w fun e w' => e = .returned (.tuple #[str (l'.take n), .int .i64 0]) ∧ But b w w' ∧ Two w' b 67 (str (l'.drop n)) (.int .i64 0) := by
  have H := Lib.hid (numW_ok b l n l' w hr hs h)
  have HM := Lib.hid hM
  have HB := Lib.hid hB
  have hb := hB.cell
  have hn : n ≤ 1099511627776 := (scan_le _ _ _ _ _ _ h).1
  have hsz := size_mk l'
  have hll : l'.length ≤ 1000000 := by have := (scan_le _ _ _ _ _ _ h).2; omega
  clear h hB hM hr
  go_enter Try.func42, Try.ntmps42
  go_wp2_with (go_at_call 25; refine H.out.mono ?_; rintro e w1 ⟨rfl, hb, h2⟩; have m1 := (HM.out.kept hb).cell; have b1 := (HB.out.kept hb).cell; have r1 := h2.c0; have f1 := h2.fz 0)
  go_region
  go_wp2
  go_ret2
  have e1 : str (l'.take n) = .string ((⟨l'.toArray⟩ : ByteArray).extract 0 n) := congrArg Value.string (ext_take l' n).symm
  have e2 : str (l'.drop n) = .string ((⟨l'.toArray⟩ : ByteArray).extract n l'.length) := congrArg Value.string (ext_drop' l' n).symm
  rw [e1, e2]
  exact ⟨rfl, ((hb.trans (But.drewN b _ _)).trans (But.setCell b _ 0 _)), h2.set0 _⟩

abbrev capW (w : World) (b : Nat) (most : Int) : World := (w.alloc (.cells #[ptr b] 37)).alloc (.cells #[.int .i64 most] 3)
theorem cap_facts {w : World} {b : Nat} {x y : Value} (most : Int) (h : Two w b 67 x y) : Two (capW w b most) b 67 x y ∧ Cap (capW w b most) w.heap.size b (ptr b) ∧ Cap (capW w b most) (w.heap.size + 1) b (.int .i64 most) := by
  have hl := h.lt
  refine ⟨(h.kept (But.alloc (w.heap.size + 5) w _) (by omega)).kept (But.alloc (w.heap.size + 5) _ _) (by omega), ⟨?_, by simp; omega, by omega⟩, ⟨?_, by simp, by omega⟩⟩
  · have := (But.alloc b (w.alloc (.cells #[ptr b] 37)) (.cells #[.int .i64 most] 3)).cell (k := w.heap.size) (o := 0) (by simp) (by omega)
    rw [this]; simp
  · have : (w.alloc (.cells #[ptr b] 37)).heap.size = w.heap.size + 1 := by simp
    rw [← this]; simp
set_option maxHeartbeats 1000000 in
theorem textW_any (b : Nat) (most : Int) (r : Rs) (w : World) (hr : RdW w b r) (hl : r.l.length ≤ 1000000) :
    Calls Try.prog 23 #[ptr b, .int .i64 most] w fun e w' => e = .returned (.tuple #[str (r.text most).1.1, .int .i64 (r.text most).1.2]) ∧ But b w w' ∧ RdW w' b (r.text most).2 := by
  obtain ⟨l, c⟩ := r
  have hr' : Two w b 67 (str l) (.int .i64 c) := hr
  clear hr
  obtain ⟨k1, k2, k3⟩ := cap_facts most hr'
  have K1 := Lib.hid k1
  by_cases hc : c = 0
  · subst hc
    cases hs : scan 1099511627776 0 0 l with
    | error c =>
      have hc0 : c ≠ 0 := by have := scan_err _ _ _ _ _ hs; omega
      have e1 : (Rs.mk l 0).text most = (([], c), ⟨[], c⟩) := by simp [Rs.text, Rs.num, hs, hc0]
      have hcl := text42_err1 w.heap.size (w.heap.size + 1) b l c (capW w b most) hl k2 k1 hs
      have H := Lib.hid (readText_er b c #[ptr w.heap.size, ptr (w.heap.size + 1)] ⟨#[]⟩ _ _ hc0 K1.out hcl)
      have E1 := Lib.hid e1
      clear e1 hcl hs k1 k2 k3 hl hc0
      go_enter Try.func23, Try.ntmps23
      go_wp2_with (go_at_call 41; refine H.out.mono ?_; rintro e w' ⟨rfl, hb, h2⟩)
      go_ret2
      rw [E1.out]
      exact ⟨rfl, ((But.alloc b w _).trans (But.alloc b _ _)).trans hb, h2⟩
    | ok p =>
      obtain ⟨n, l'⟩ := p
      by_cases hm : most < n
      · have e1 : (Rs.mk l 0).text most = (([], 40), ⟨[], 40⟩) := by simp [Rs.text, Rs.num, hs, hm]
        have hcl := text42_err2 w.heap.size (w.heap.size + 1) b most l l' n (capW w b most) hl k2 k3 k1 hs hm
        have H := Lib.hid (readText_er b 40 #[ptr w.heap.size, ptr (w.heap.size + 1)] ⟨#[]⟩ _ _ (by decide) K1.out hcl)
        have E1 := Lib.hid e1
        clear e1 hcl hs k1 k2 k3 hl
        go_enter Try.func23, Try.ntmps23
        go_wp2_with (go_at_call 41; refine H.out.mono ?_; rintro e w' ⟨rfl, hb, h2⟩)
        go_ret2
        rw [E1.out]
        exact ⟨rfl, ((But.alloc b w _).trans (But.alloc b _ _)).trans hb, h2⟩
      · by_cases hn : l'.length < n
        · have e1 : (Rs.mk l 0).text most = (([], 8), ⟨[], 8⟩) := by simp [Rs.text, Rs.num, hs, hm, hn]
          have hcl := text42_err3 w.heap.size (w.heap.size + 1) b most l l' n (capW w b most) hl k2 k3 k1 hs (by omega) hn
          have H := Lib.hid (readText_er b 8 #[ptr w.heap.size, ptr (w.heap.size + 1)] ⟨#[]⟩ _ _ (by decide) K1.out hcl)
          have E1 := Lib.hid e1
          clear e1 hcl hs k1 k2 k3 hl hm hn
          go_enter Try.func23, Try.ntmps23
          go_wp2_with (go_at_call 41; refine H.out.mono ?_; rintro e w' ⟨rfl, hb, h2⟩)
          go_ret2
          rw [E1.out]
          exact ⟨rfl, ((But.alloc b w _).trans (But.alloc b _ _)).trans hb, h2⟩
        · have e1 : (Rs.mk l 0).text most = ((l'.take n, 0), ⟨l'.drop n, 0⟩) := by simp [Rs.text, Rs.num, hs, hm, hn]
          have hcl := text42_ok w.heap.size (w.heap.size + 1) b most l l' n (capW w b most) hl k2 k3 k1 hs (by omega) (by omega)
          have H := Lib.hid (readText_ok b #[ptr w.heap.size, ptr (w.heap.size + 1)] ⟨(l'.take n).toArray⟩ (l'.drop n) _ _ K1.out hcl)
          have E1 := Lib.hid e1
          clear e1 hcl hs k1 k2 k3 hl hm hn
          go_enter Try.func23, Try.ntmps23
          go_wp2_with (go_at_call 41; refine H.out.mono ?_; rintro e w' ⟨rfl, hb, h2⟩)
          go_ret2
          rw [E1.out]
          exact ⟨rfl, ((But.alloc b w _).trans (But.alloc b _ _)).trans hb, h2⟩
  · have e1 : (Rs.mk l c).text most = (([], c), ⟨l, c⟩) := by simp [Rs.text, Rs.num, hc]
    have H := Lib.hid (readText_bad b c #[ptr w.heap.size, ptr (w.heap.size + 1)] _ (capW w b most) hc K1.out)
    have E1 := Lib.hid e1
    clear e1 k1 k2 k3 hl
    go_enter Try.func23, Try.ntmps23
    go_wp2_with (go_at_call 41; refine H.out.mono ?_; rintro e w' ⟨rfl, n, rfl⟩)
    go_ret2
    rw [E1.out]
    exact ⟨rfl, ((But.alloc b w _).trans (But.alloc b _ _)).trans (But.drewN _ _ _), K1.out.drewN _⟩
end Go.Proofs.Ytlflkmigfggdjaa
