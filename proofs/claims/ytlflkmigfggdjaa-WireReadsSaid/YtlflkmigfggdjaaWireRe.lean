/- callboardlaw02.WireReads returns true at every input. Conditions: none but that lengths are lengths. -/
import Derived.Test.YtlflkmigfggdjaaWireAn
import Derived.Test.YtlflkmigfggdjaaWireDv
namespace Go.Proofs.Ytlflkmigfggdjaa
open Go.RowKit Go.Ow Go.Wi

theorem RdD.kept {w w' : World} {b c : Nat} {r : Rs} (h : RdD w b r) (k : But c w w') (hb : b ≠ c) : RdD w' b r := Two.kept h k hb
theorem RdD.al {w : World} {b : Nat} {r : Rs} (h : RdD w b r) (o : Obj) : RdD (w.alloc o) b r := Two.al h o
theorem RdD.lt {w : World} {b : Nat} {r : Rs} (h : RdD w b r) : b < w.heap.size := Two.lt h
theorem RdW.drewN {w : World} {b : Nat} {r : Rs} (h : RdW w b r) (n : Nat) : RdW (w.drewN n) b r := Two.drewN h n
theorem RdD.drewN {w : World} {b : Nat} {r : Rs} (h : RdD w b r) (n : Nat) : RdD (w.drewN n) b r := Two.drewN h n
theorem left_quiet (b : Nat) (r : Rs) (w : World) (n : Nat) (hr : RdW w b r) : Calls Try.prog 27 #[ptr b] (w.drewN n) fun e w'' => e = .returned (.int .i64 r.l.length) ∧ ∃ m, w'' = w.drewN m :=
  (leftW_any b r (w.drewN n) (hr.drewN n)).mono fun _ _ ⟨he, hw⟩ => ⟨he, n, hw.symm⟩
theorem two_new (w : World) (s : ByteArray) : RdW ((w.alloc (ob s)).alloc (.cells #[.string s, .int .i64 0] 53)) w.heap.size ⟨s.data.toList, 0⟩ ∧ RdD ((w.alloc (ob s)).alloc (.cells #[.string s, .int .i64 0] 53)) (w.heap.size + 1) ⟨s.data.toList, 0⟩ := by
  refine ⟨(rd_of w s _ (str_self s)).al _, ?_⟩
  have := heap_alloc_new (w.alloc (ob s)) (.cells #[.string s, .int .i64 0] 53)
  have e1 : (w.alloc (ob s)).heap.size = w.heap.size + 1 := by simp
  rw [e1] at this
  exact this
/-- the two readers, at one place -/
structure Side (w : World) (N : Nat) (wr : World) (r : Rs) : Prop where
  a : RdW wr N r
  b : RdD wr (N + 1) r
  l : r.l.length ≤ 2000
  k : Below N w wr
theorem Side.next {w wr w1 w2 : World} {N : Nat} {r r2 : Rs} (h : Side w N wr r) (b1 : But N wr w1) (a : RdW w1 N r2) (b2 : But (N + 1) w1 w2) (b : RdD w2 (N + 1) r2) (hl : r2.l.length ≤ r.l.length) (hN : N ≤ w.heap.size) (n : Nat) : Side w N (w2.drewN n) r2 :=
  ⟨(a.kept b2 (by omega)).drewN n, b.drewN n, Nat.le_trans hl h.l, ((h.k.trans (b1.below (Nat.le_refl _) (by have := h.k.size; omega))).trans (b2.below (by omega) (by have := a.lt; omega))).trans (Below.drewN _ _)⟩
theorem Side.next2 {w wr w1 w2 : World} {N : Nat} {r r2 : Rs} (h : Side w N wr r) (b1 : But N wr w1) (a : RdW w1 N r2) (o : Obj) (b2 : But (N + 1) (w1.alloc o) w2) (b : RdD w2 (N + 1) r2) (hl : r2.l.length ≤ r.l.length) (hN : N ≤ w.heap.size) (o' : Obj) (n : Nat) : Side w N ((w2.alloc o').drewN n) r2 :=
  ⟨(((a.al o).kept b2 (by omega)).al o').drewN n, (b.al o').drewN n, Nat.le_trans hl h.l, ((((h.k.trans (b1.below (Nat.le_refl _) (by have := h.k.size; omega))).alloc (by have := a.lt; omega) o).trans (b2.below (by omega) (by have := a.lt; simp; omega))).alloc (by have := b.lt; omega) o').trans (Below.drewN _ _)⟩
theorem Rs.int_l {x : Int} {c : Nat} {r r2 : Rs} (h : r.int = ((x, c), r2)) : r2.l.length ≤ r.l.length := by have := int_len r; rw [h] at this; exact this
theorem Rs.text_l {m : Int} {x : List UInt8} {c : Nat} {r r2 : Rs} (h : r.text m = ((x, c), r2)) : r2.l.length ≤ r.l.length := by have := text_len m r; rw [h] at this; exact this
theorem Rs.value_l {x : Vl} {c : Nat} {r r2 : Rs} (h : r.value = ((x, c), r2)) : r2.l.length ≤ r.l.length := by have := value_len r; rw [h] at this; exact this
theorem Rs.fin_l (r : Rs) : (Rs.fin r).2.l.length ≤ r.l.length := by unfold Rs.fin; split; exact Nat.le_refl _; split; exact Nat.le_refl _; simp

set_option maxRecDepth 100000 in
set_option maxHeartbeats 8000000 in
theorem reads_cells (s : ByteArray) (b off len cap : Nat) (most : Int) (w : World) (hs : s.size ≤ 2000) (hlen : len ≤ 300) (hb : b < w.heap.size) (hc : ∀ k, k < len → ∃ z : Nat, z < 256 ∧ w.cell? ⟨b, off + k, none⟩ = some (.int .u8 z)) :
    Calls Try.prog 7 #[.string s, .slice (some ⟨b, off, none⟩) len cap, .int .i64 most] w fun e w' => e = .returned (.bool true) ∧ Below w.heap.size w w' := by
  have HC := Lib.hid hc
  have HT := Lib.hid (two_new w s)
  clear hc
  go_enter Try.func7, Try.ntmps7
  go_wp2_with (go_at_call 21; refine (open_any _ _).mono ?_; rintro e w2 ⟨rfl, rfl⟩)
  go_loopw [9] (fun I wr => ∃ (k : Nat) (r : Rs), k ≤ len ∧ I = .int .i64 k ∧ Side w w.heap.size wr r) (fun I _ => len - (intOf I).toNat)
  case atStart => exact ⟨0, ⟨s.data.toList, 0⟩, by omega, rfl, HT.out.1, HT.out.2, by simp; omega, ((Below.refl _ _).alloc (Nat.le_refl _) _).alloc (by simp) _⟩
  case round =>
    obtain ⟨k, r, hk, rfl, hS⟩ := hrel
    have HS := Lib.hid hS
    have hN := hS.b.lt
    clear hS
    by_cases hlt : k < len
    · obtain ⟨z, hz, hcell⟩ := HC.out k hlt
      have hcell' : wr.cell? ⟨b, off + k, none⟩ = some (.int .u8 z) := by rw [HS.out.k.cell (p := ⟨b, off + k, none⟩) hb]; exact hcell
      clear hcell
      obtain ⟨d, hd⟩ : ∃ d, d = z % 5 := ⟨_, rfl⟩
      have qd : (z : Int) % 5 = d := by omega
      have hd5 : d < 5 := by omega
      clear hd
      have hd' : d = 0 ∨ d = 1 ∨ d = 2 ∨ d = 3 ∨ d = 4 := by omega
      clear hd5
      rcases hd' with rfl | rfl | rfl | rfl | rfl
      · obtain ⟨⟨⟨x, c⟩, r2⟩, hx⟩ : ∃ q, r.num 1099511627776 = q := ⟨_, rfl⟩
        have HX := Lib.hid hx
        clear hx
        go_wp2_with (first
          | (go_at_call 25; refine (numW_at w.heap.size r r2 x c wr HS.out.a (by have := HS.out.l; omega) HX.out).mono ?_; rintro e w1 ⟨rfl, b1, a1⟩)
          | (go_at_call 28; refine (numD_at (w.heap.size + 1) r r2 x c w1 (HS.out.b.kept b1 (by omega)) (by have := HS.out.l; omega) HX.out).mono ?_; rintro e w2 ⟨rfl, b2, a2⟩; have HS2 := Lib.hid (fun n => HS.out.next b1 a1 b2 a2 (Rs.num_l HX.out) (Nat.le_refl _) n); have L0 := Lib.hid (a1.kept b2 (by omega)); have k0 := Two.c0 a2; clear b1 a1 b2 a2))
        go_quiet ((go_at_call 27; exact left_quiet _ _ _ _ L0.out))
        go_wp2
        go_roundw
        case rel => exact ⟨k + 1, _, by omega, by go_num, HS2.out _⟩
        case measure => simp [intOf]; omega
      · obtain ⟨⟨⟨x, c⟩, r2⟩, hx⟩ : ∃ q, r.int = q := ⟨_, rfl⟩
        have HX := Lib.hid hx
        clear hx
        go_wp2_with (first
          | (go_at_call 22; refine (intW_at w.heap.size r r2 x c wr HS.out.a (by have := HS.out.l; omega) HX.out).mono ?_; rintro e w1 ⟨rfl, b1, a1⟩)
          | (go_at_call 29; refine (intD_at (w.heap.size + 1) r r2 x c w1 (HS.out.b.kept b1 (by omega)) (by have := HS.out.l; omega) HX.out).mono ?_; rintro e w2 ⟨rfl, b2, a2⟩; have HS2 := Lib.hid (fun n => HS.out.next b1 a1 b2 a2 (Rs.int_l HX.out) (Nat.le_refl _) n); have L0 := Lib.hid (a1.kept b2 (by omega)); have k0 := Two.c0 a2; clear b1 a1 b2 a2))
        go_quiet ((go_at_call 27; exact left_quiet _ _ _ _ L0.out))
        go_wp2
        go_roundw
        case rel => exact ⟨k + 1, _, by omega, by go_num, HS2.out _⟩
        case measure => simp [intOf]; omega
      · obtain ⟨⟨⟨x, c⟩, r2⟩, hx⟩ : ∃ q, r.text most = q := ⟨_, rfl⟩
        have HX := Lib.hid hx
        clear hx
        go_wp2_with (first
          | (go_at_call 23; refine (textW_at w.heap.size most r r2 x c wr HS.out.a (by have := HS.out.l; omega) HX.out).mono ?_; rintro e w1 ⟨rfl, b1, a1⟩)
          | (go_at_call 30; refine (textD_at (w.heap.size + 1) most r r2 x c w1 (HS.out.b.kept b1 (by omega)) (by have := HS.out.l; omega) HX.out).mono ?_; rintro e w2 ⟨rfl, b2, a2⟩; have HS2 := Lib.hid (fun n => HS.out.next b1 a1 b2 a2 (Rs.text_l HX.out) (Nat.le_refl _) n); have L0 := Lib.hid (a1.kept b2 (by omega)); have k0 := Two.c0 a2; clear b1 a1 b2 a2))
        go_quiet ((go_at_call 27; exact left_quiet _ _ _ _ L0.out))
        go_wp2
        go_roundw
        case rel => exact ⟨k + 1, _, by omega, by go_num, HS2.out _⟩
        case measure => simp [intOf]; omega
      · obtain ⟨⟨⟨x, c⟩, r2⟩, hx⟩ : ∃ q, r.value = q := ⟨_, rfl⟩
        have HX := Lib.hid hx
        clear hx
        go_wp2_with (first
          | (go_at_call 24; refine (valueW_at w.heap.size r r2 x c wr HS.out.a (by have := HS.out.l; omega) HX.out).mono ?_; rintro e w1 ⟨rfl, b1, a1⟩)
          | (go_at_call 31; refine (valueD_at (w.heap.size + 1) r r2 x c (w1.alloc (.cells #[.int .u8 x.k, .int .i64 x.n, .string ⟨x.t.toArray⟩] 23)) ((HS.out.b.kept b1 (by omega)).al _) (by have := HS.out.l; omega) HX.out).mono ?_; rintro e w2 ⟨rfl, b2, a2⟩; have hZ1 : w.heap.size + 1 < w1.heap.size := RdD.lt (HS.out.b.kept b1 (by omega)); have hV := (three_new w1 (.int .u8 x.k) (.int .i64 x.n) (.string ⟨x.t.toArray⟩)).kept b2 (by omega); have v0 := hV.c0; have v1 := hV.c1; have v2 := hV.c2; have hV' := hV.lt; have HS2 := Lib.hid (fun n => HS.out.next2 b1 a1 (.cells #[.int .u8 x.k, .int .i64 x.n, .string ⟨x.t.toArray⟩] 23) b2 a2 (Rs.value_l HX.out) (Nat.le_refl _) (.cells #[.int .u8 x.k, .int .i64 x.n, .string ⟨x.t.toArray⟩] 23) n); have L0 := Lib.hid (((a1.al (.cells #[.int .u8 x.k, .int .i64 x.n, .string ⟨x.t.toArray⟩] 23)).kept b2 (by omega)).al (.cells #[.int .u8 x.k, .int .i64 x.n, .string ⟨x.t.toArray⟩] 23)); have k0 := Two.c0 (a2.al (.cells #[.int .u8 x.k, .int .i64 x.n, .string ⟨x.t.toArray⟩] 23)); clear b1 a1 b2 hV))
        go_quiet ((go_at_call 27; exact left_quiet _ _ _ _ L0.out))
        go_wp2
        go_roundw
        case rel => exact ⟨k + 1, _, by omega, by go_num, HS2.out _⟩
        case measure => simp [intOf]; omega
      · have A1 := Lib.hid (endW_any w.heap.size r wr HS.out.a)
        go_wp2_with (first
          | (go_at_call 32; refine A1.out.mono ?_; rintro e w1 ⟨rfl, b1, a1⟩)
          | (go_at_call 33; refine (endD_any (w.heap.size + 1) r w1 (HS.out.b.kept b1 (by omega))).mono ?_; rintro e w2 ⟨rfl, b2, a2⟩; have HS2 := Lib.hid (fun n => HS.out.next b1 a1 b2 a2 (Rs.fin_l r) (Nat.le_refl _) n); have L0 := Lib.hid (a1.kept b2 (by omega)); have k0 := Two.c0 a2; clear b1 a1 b2 a2))
        go_quiet ((go_at_call 27; exact left_quiet _ _ _ _ L0.out))
        go_wp2
        go_roundw
        case rel => exact ⟨k + 1, _, by omega, by go_num, HS2.out _⟩
        case measure => simp [intOf]; omega
    · clear HC
      go_wp2_with (go_at_call 10; refine (awake_true _).mono ?_; rintro e w9 ⟨rfl, hb9⟩)
      go_ret
      exact ⟨rfl, Below.trans HS.out.k (hb9.mono HS.out.k.size)⟩

end Go.Proofs.Ytlflkmigfggdjaa
