/- What the codec's reader reads: a number, a small one, a text, a truth, as functions of what is left and whether something was wrong. Conditions: the bytes are not too many. -/
import Derived.Test.YtblebjgjomamdaaDoorWr4
import Derived.Test.YtblebjgjomamdaaDoorMVars2
namespace Go.Wi
/-- the codec's reader: wire's reader, and whether something was bad -/
structure Cs where
  r : Rs
  bad : Bool
def Cs.num (c : Cs) : Nat × Cs := ((c.r.num 1099511627776).1.1, ⟨(c.r.num 1099511627776).2, c.bad || decide ((c.r.num 1099511627776).1.2 ≠ 0)⟩)
def Cs.text (c : Cs) : List UInt8 × Cs := ((c.r.text 4000).1.1, ⟨(c.r.text 4000).2, c.bad || decide ((c.r.text 4000).1.2 ≠ 0)⟩)
def Cs.small (c : Cs) : Nat × Cs := (c.num.1 % 256, ⟨c.num.2.r, c.num.2.bad || decide (255 < c.num.1)⟩)
def Cs.truth (c : Cs) : Bool × Cs := (decide (c.num.1 = 1), ⟨c.num.2.r, c.num.2.bad || decide (1 < c.num.1)⟩)
theorem Cs.num_len (c : Cs) : c.num.2.r.l.length ≤ c.r.l.length := Go.Wi.num_len _ _
theorem Cs.text_len (c : Cs) : c.text.2.r.l.length ≤ c.r.l.length := Go.Wi.text_len _ _
theorem Cs.small_len (c : Cs) : c.small.2.r.l.length ≤ c.r.l.length := Go.Wi.num_len _ _
theorem Cs.truth_len (c : Cs) : c.truth.2.r.l.length ≤ c.r.l.length := Go.Wi.num_len _ _
theorem Rs.num_le (most : Nat) (r : Rs) : (r.num most).1.1 ≤ most := by
  obtain ⟨l, e⟩ := r
  by_cases he : e = 0
  · subst he
    cases hn : (Rs.mk l 0).num most with
    | mk p r2 =>
      obtain ⟨n, c⟩ := p
      by_cases hc : c = 0
      · subst hc
        exact (Rs.num_ok hn).2.1
      · have := (Go.Proofs.YtblebjgjomamdaaDoor.Wr.Rs.num_e hn hc).2
        simp only
        omega
  · have : (Rs.mk l e).num most = ((0, e), ⟨l, e⟩) := by simp [Rs.num, he]
    rw [this]
    exact Nat.zero_le _
theorem Cs.num_le (c : Cs) : c.num.1 ≤ 1099511627776 := Rs.num_le _ _
end Go.Wi
namespace Go.Ow
open Go.RowKit
/-- all that was there but blocks b and B is as it was -/
structure Bu2 (b B : Nat) (w w' : World) : Prop where
  os : w'.os = w.os
  tape : w'.tape = w.tape
  output : w'.output = w.output
  size : w.heap.size ≤ w'.heap.size
  block : ∀ k, k < w.heap.size → k ≠ b → k ≠ B → w'.heap[k]? = w.heap[k]?
theorem Bu2.refl (b B : Nat) (w : World) : Bu2 b B w w := ⟨rfl, rfl, rfl, Nat.le_refl _, fun _ _ _ _ => rfl⟩
theorem Bu2.trans {b B : Nat} {u v w : World} (h : Bu2 b B u v) (k : Bu2 b B v w) : Bu2 b B u w :=
  ⟨k.os.trans h.os, k.tape.trans h.tape, k.output.trans h.output, Nat.le_trans h.size k.size, fun i hi hb hB => (k.block i (Nat.lt_of_lt_of_le hi h.size) hb hB).trans (h.block i hi hb hB)⟩
theorem Bu2.left {b B : Nat} {w w' : World} (h : But b w w') : Bu2 b B w w' := ⟨h.os, h.tape, h.output, h.size, fun k hk hb _ => h.block k hk hb⟩
theorem Bu2.right {b B : Nat} {w w' : World} (h : But B w w') : Bu2 b B w w' := ⟨h.os, h.tape, h.output, h.size, fun k hk _ hb => h.block k hk hb⟩
theorem Bu2.of_below {b B : Nat} {w w' : World} (h : Below w.heap.size w w') : Bu2 b B w w' := .left (.of_below h)
theorem Bu2.al {b B : Nat} {w w' : World} (h : Bu2 b B w w') (o : Obj) : Bu2 b B w (w'.alloc o) := h.trans (.left (But.alloc b w' o))
theorem Bu2.dr {b B : Nat} {w w' : World} (h : Bu2 b B w w') (n : Nat) : Bu2 b B w (w'.drewN n) := h.trans (.left (But.drewN b w' n))
theorem Bu2.sn {b B k : Nat} {w w' : World} (h : Bu2 b B w w') (o : Nat) (u : Value) (hk : w.heap.size ≤ k) : Bu2 b B w (w'.setCell ⟨k, o, none⟩ u) :=
  ⟨h.os, h.tape, h.output, by have := h.size; simpa [World.setCell] using this, fun i hi hb hB => (Below.heap_setCell _ _ _ _ (by show i ≠ k; omega)).trans (h.block i hi hb hB)⟩
theorem Bu2.below {C b B : Nat} {w w' : World} (h : Bu2 b B w w') (hb : C ≤ b) (hB : C ≤ B) (hs : C ≤ w.heap.size) : Below C w w' :=
  ⟨h.os, h.tape, h.output, h.size, fun k hk => h.block k (by omega) (by omega) (by omega)⟩
theorem Bu2.cell {b B : Nat} {w w' : World} (h : Bu2 b B w w') {k o : Nat} (hk : k < w.heap.size) (hb : k ≠ b) (hB : k ≠ B) : w'.cell? ⟨k, o, none⟩ = w.cell? ⟨k, o, none⟩ := World.cell?_of_block (w := w) (h.block k hk hb hB)
theorem Bu2.frozen {b B : Nat} {w w' : World} (h : Bu2 b B w w') {k o : Nat} (hk : k < w.heap.size) (hb : k ≠ b) (hB : k ≠ B) : w'.frozen? ⟨k, o, none⟩ = w.frozen? ⟨k, o, none⟩ := World.frozen?_of_block (w := w) (h.block k hk hb hB)
end Go.Ow
namespace Go.Proofs.YtblebjgjomamdaaDoor
open Go.RowKit Go.Ow Go.Wi

/-- the codec's reader at block B, wire's at block b -/
structure RdC (w : World) (b B : Nat) (c : Cs) : Prop where
  wr : Wr.RdW w b c.r
  cr : Two w B 63 (pt b) (.bool c.bad)
  ne : b ≠ B
theorem RdC.al {w : World} {b B : Nat} {c : Cs} (h : RdC w b B c) (o : Obj) : RdC (w.alloc o) b B c := ⟨Two.al h.wr o, h.cr.al o, h.ne⟩
theorem RdC.sn {w : World} {b B k : Nat} {c : Cs} (h : RdC w b B c) (o : Nat) (u : Value) (hb : b ≠ k) (hB : B ≠ k) : RdC (w.setCell ⟨k, o, none⟩ u) b B c := ⟨Two.sn h.wr o u hb, h.cr.sn o u hB, h.ne⟩
theorem RdC.below {w w' : World} {b B : Nat} {c : Cs} (h : RdC w b B c) (hb : Below w.heap.size w w') : RdC w' b B c := ⟨Two.keptB h.wr hb (Two.lt h.wr), h.cr.keptB hb h.cr.lt, h.ne⟩

set_option maxHeartbeats 1000000 in
theorem num_rd (b B : Nat) (c : Cs) (w : World) (h : RdC w b B c) (hl : c.r.l.length ≤ 10000) :
    Calls Tryd.prog 44 #[pt B] w fun e w' => e = .returned (.int .i64 c.num.1) ∧ Bu2 b B w w' ∧ RdC w' b B c.num.2 := by
  obtain ⟨r, bad⟩ := c
  have NA := Wr.numW_any b r w h.wr (by simp only at hl; omega)
  unfold Cs.num
  simp only
  obtain ⟨⟨⟨n, e⟩, r2⟩, hq⟩ : ∃ q, r.num 1099511627776 = q := ⟨_, rfl⟩
  rw [hq] at NA ⊢
  simp only at NA ⊢
  have NA := Lib.hid NA
  have HC := Lib.hid h.cr
  have HN := Lib.hid h.ne
  have k0 := h.cr.c0
  clear hq h hl
  by_cases he : e = 0
  · subst he
    cases bad
    · go_enter Tryd.func44, Tryd.ntmps44
      go_wp2_with (go_at_call 79; with_reducible refine NA.out.mono ?_; rintro e w1 ⟨rfl, hb, h2⟩; have hc := HC.out.kept hb (Ne.symm HN.out); have t0 := hc.c0; have t1 := hc.c1; have u1 := hc.fz 1)
      go_ret
      exact ⟨rfl, (Bu2.left hb).trans (.right (But.setCell B w1 1 _)), Two.sn h2 1 _ HN.out, hc.set1 _, HN.out⟩
    · go_enter Tryd.func44, Tryd.ntmps44
      go_wp2_with (go_at_call 79; with_reducible refine NA.out.mono ?_; rintro e w1 ⟨rfl, hb, h2⟩; have hc := HC.out.kept hb (Ne.symm HN.out); have t0 := hc.c0; have t1 := hc.c1; have u1 := hc.fz 1)
      go_ret
      exact ⟨rfl, (Bu2.left hb).trans (.right (But.setCell B w1 1 _)), Two.sn h2 1 _ HN.out, hc.set1 _, HN.out⟩
  · have e1 : ((e : Int) != 0) = true := by rw [bne_iff_ne]; omega
    have e2 : decide (e ≠ 0) = true := by simpa using he
    rw [e2]
    clear he e2
    cases bad
    · go_enter Tryd.func44, Tryd.ntmps44
      go_wp2_with (go_at_call 79; with_reducible refine NA.out.mono ?_; rintro e w1 ⟨rfl, hb, h2⟩; have hc := HC.out.kept hb (Ne.symm HN.out); have t0 := hc.c0; have t1 := hc.c1; have u1 := hc.fz 1)
      go_ret
      exact ⟨rfl, (Bu2.left hb).trans (.right (But.setCell B w1 1 _)), Two.sn h2 1 _ HN.out, hc.set1 _, HN.out⟩
    · go_enter Tryd.func44, Tryd.ntmps44
      go_wp2_with (go_at_call 79; with_reducible refine NA.out.mono ?_; rintro e w1 ⟨rfl, hb, h2⟩; have hc := HC.out.kept hb (Ne.symm HN.out); have t0 := hc.c0; have t1 := hc.c1; have u1 := hc.fz 1)
      go_ret
      exact ⟨rfl, (Bu2.left hb).trans (.right (But.setCell B w1 1 _)), Two.sn h2 1 _ HN.out, hc.set1 _, HN.out⟩
set_option maxHeartbeats 1000000 in
theorem text_rd (b B : Nat) (c : Cs) (w : World) (h : RdC w b B c) (hl : c.r.l.length ≤ 10000) :
    Calls Tryd.prog 22 #[pt B] w fun e w' => e = .returned (Wr.str c.text.1) ∧ Bu2 b B w w' ∧ RdC w' b B c.text.2 := by
  obtain ⟨r, bad⟩ := c
  have NA := Wr.textW_any b 4000 r w h.wr (by simp only at hl; omega)
  unfold Cs.text
  simp only
  obtain ⟨⟨⟨t, e⟩, r2⟩, hq⟩ : ∃ q, r.text 4000 = q := ⟨_, rfl⟩
  rw [hq] at NA ⊢
  simp only at NA ⊢
  have NA := Lib.hid NA
  have HC := Lib.hid h.cr
  have HN := Lib.hid h.ne
  have k0 := h.cr.c0
  clear hq h hl
  by_cases he : e = 0
  · subst he
    cases bad
    · go_enter Tryd.func22, Tryd.ntmps22
      go_wp2_with (go_at_call 40; with_reducible refine NA.out.mono ?_; rintro e w1 ⟨rfl, hb, h2⟩; have hc := HC.out.kept hb (Ne.symm HN.out); have t0 := hc.c0; have t1 := hc.c1; have u1 := hc.fz 1)
      go_ret
      exact ⟨rfl, (Bu2.left hb).trans (.right (But.setCell B w1 1 _)), Two.sn h2 1 _ HN.out, hc.set1 _, HN.out⟩
    · go_enter Tryd.func22, Tryd.ntmps22
      go_wp2_with (go_at_call 40; with_reducible refine NA.out.mono ?_; rintro e w1 ⟨rfl, hb, h2⟩; have hc := HC.out.kept hb (Ne.symm HN.out); have t0 := hc.c0; have t1 := hc.c1; have u1 := hc.fz 1)
      go_ret
      exact ⟨rfl, (Bu2.left hb).trans (.right (But.setCell B w1 1 _)), Two.sn h2 1 _ HN.out, hc.set1 _, HN.out⟩
  · have e1 : ((e : Int) != 0) = true := by rw [bne_iff_ne]; omega
    have e2 : decide (e ≠ 0) = true := by simpa using he
    rw [e2]
    clear he e2
    cases bad
    · go_enter Tryd.func22, Tryd.ntmps22
      go_wp2_with (go_at_call 40; with_reducible refine NA.out.mono ?_; rintro e w1 ⟨rfl, hb, h2⟩; have hc := HC.out.kept hb (Ne.symm HN.out); have t0 := hc.c0; have t1 := hc.c1; have u1 := hc.fz 1)
      go_ret
      exact ⟨rfl, (Bu2.left hb).trans (.right (But.setCell B w1 1 _)), Two.sn h2 1 _ HN.out, hc.set1 _, HN.out⟩
    · go_enter Tryd.func22, Tryd.ntmps22
      go_wp2_with (go_at_call 40; with_reducible refine NA.out.mono ?_; rintro e w1 ⟨rfl, hb, h2⟩; have hc := HC.out.kept hb (Ne.symm HN.out); have t0 := hc.c0; have t1 := hc.c1; have u1 := hc.fz 1)
      go_ret
      exact ⟨rfl, (Bu2.left hb).trans (.right (But.setCell B w1 1 _)), Two.sn h2 1 _ HN.out, hc.set1 _, HN.out⟩
set_option maxHeartbeats 1000000 in
theorem small_rd (b B : Nat) (c : Cs) (w : World) (h : RdC w b B c) (hl : c.r.l.length ≤ 10000) :
    Calls Tryd.prog 45 #[pt B] w fun e w' => e = .returned (.int .u8 c.small.1) ∧ Bu2 b B w w' ∧ RdC w' b B c.small.2 := by
  have NA := num_rd b B c w h hl
  have hle := c.num_le
  unfold Cs.small
  simp only
  obtain ⟨⟨n, r2, bad⟩, hq⟩ : ∃ q, c.num = q := ⟨_, rfl⟩
  rw [hq] at NA hle ⊢
  simp only at NA hle ⊢
  have NA := Lib.hid NA
  clear hq h hl
  have e0 : decide (255 < n) = decide (255 < (n : Int)) := by rw [decide_eq_decide]; omega
  rw [e0]
  obtain ⟨d, hd⟩ : ∃ d, decide (255 < (n : Int)) = d := ⟨_, rfl⟩
  rw [hd]
  clear e0
  cases bad <;>
  · go_enter Tryd.func45, Tryd.ntmps45
    go_wp2_with (go_at_call 44; with_reducible refine NA.out.mono ?_; rintro e w1 ⟨rfl, hb, h2⟩; have hc := h2.cr; have t0 := hc.c0; have t1 := hc.c1; have u1 := hc.fz 1)
    go_ret
    exact ⟨congrArg (fun x => Ending.returned (.int .u8 x)) (by simp), hb.trans (.right (But.setCell B w1 1 _)), Two.sn h2.wr 1 _ h2.ne, hc.set1 _, h2.ne⟩
set_option maxHeartbeats 1000000 in
theorem truth_rd (b B : Nat) (c : Cs) (w : World) (h : RdC w b B c) (hl : c.r.l.length ≤ 10000) :
    Calls Tryd.prog 46 #[pt B] w fun e w' => e = .returned (.bool c.truth.1) ∧ Bu2 b B w w' ∧ RdC w' b B c.truth.2 := by
  have NA := num_rd b B c w h hl
  have hle := c.num_le
  unfold Cs.truth
  simp only
  obtain ⟨⟨n, r2, bad⟩, hq⟩ : ∃ q, c.num = q := ⟨_, rfl⟩
  rw [hq] at NA hle ⊢
  simp only at NA hle ⊢
  have NA := Lib.hid NA
  clear hq h hl
  have e0 : decide (1 < n) = decide (1 < (n : Int)) := by rw [decide_eq_decide]; omega
  rw [e0]
  obtain ⟨d, hd⟩ : ∃ d, decide (1 < (n : Int)) = d := ⟨_, rfl⟩
  rw [hd]
  clear e0
  have e1 : ((n : Int) == 1) = decide (n = 1) := by rw [Bool.eq_iff_iff]; simp; omega
  cases bad <;>
  · go_enter Tryd.func46, Tryd.ntmps46
    go_wp2_with (go_at_call 44; with_reducible refine NA.out.mono ?_; rintro e w1 ⟨rfl, hb, h2⟩; have hc := h2.cr; have t0 := hc.c0; have t1 := hc.c1; have u1 := hc.fz 1)
    go_ret
    exact ⟨rfl, hb.trans (.right (But.setCell B w1 1 _)), Two.sn h2.wr 1 _ h2.ne, hc.set1 _, h2.ne⟩
theorem open_any (l : List UInt8) (w : World) : Calls Tryd.prog 21 #[Wr.str l] w fun e w' => e = .returned (pt w.heap.size) ∧ w' = w.alloc (.cells #[Wr.str l, .int .i64 0] 83) := by
  go_enter Tryd.func21, Tryd.ntmps21
  go_wp2
  go_ret
  exact ⟨rfl, rfl⟩
end Go.Proofs.YtblebjgjomamdaaDoor
