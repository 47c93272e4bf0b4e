/- Whatever bytes with their sum behind them are no process, or, encoded anew, just these (whole). Conditions: the tables as laid; not too many bytes. -/
import Derived.Test.YtblebjgjomamdaaDoorCv
import Derived.Test.YtblebjgjomamdaaDoorCwk
namespace Go.Proofs.YtblebjgjomamdaaDoor
open Go.RowKit Go.Ow Go.Wi

theorem cs0_seal (t : List UInt8) : cs0 (t ++ sealL t) = ⟨⟨t, 0⟩, false⟩ := by
  unfold cs0
  have : (t ++ sealL t).length - 4 = t.length := by rw [List.length_append, sealL_len]; omega
  rw [this, List.take_left']
  rfl
theorem enc_back {x : Pr} {t : List UInt8} (h1 : prB x = t) (h2 : prW x = false) (h3 : decC (t ++ sealL t) = 4) : encR x = .tuple #[strL' (t ++ sealL t), .int .i64 0] := by
  have h4 : ¬ 4000 < (t ++ sealL t).length := by
    intro h
    unfold decC at h3
    rw [if_pos h] at h3
    cases h3
  rw [List.length_append, sealL_len] at h4
  unfold encR
  rw [h1, h2, Bool.false_or, decide_eq_false h4]
  rfl
theorem decC_ne (s : List UInt8) : ((decC s : Int) != 0) = true := by
  unfold decC
  by_cases h1 : 4000 < s.length
  · rw [if_pos h1]; rfl
  · rw [if_neg h1]
    by_cases h2 : s.length < 4
    · rw [if_pos h2]; rfl
    · rw [if_neg h2]
      by_cases h3 : s.drop (s.length - 4) ≠ sealL (s.take (s.length - 4))
      · rw [if_pos h3]; rfl
      · rw [if_neg h3]; rfl
set_option maxRecDepth 100000 in
set_option maxHeartbeats 4000000 in
theorem whole_any {A : Nat → Nat × Nat} (t : List UInt8) (w : World) (hG : Gl A w) (ht : t.length ≤ 900000) :
    Calls Tryd.prog 13 #[strL' t] w fun e w' => e = .returned (.bool true) ∧ Below w.heap.size w w' := by
  have SE := sealed_any ⟨t.toArray⟩ w (by rw [mk_size]; omega)
  rw [show (⟨t.toArray⟩ : ByteArray).data.toList = t by simp] at SE
  have SE := Lib.hid SE
  have DE := Lib.hid (fun (w1 : World) (h : Gl A w1) => dec_any (t ++ sealL t) w1 h (by rw [List.length_append, sealL_len]; omega))
  have HG := Lib.hid hG
  have HS := Lib.hid (cs0_seal t)
  obtain ⟨s, hs⟩ : ∃ s, t ++ sealL t = s := ⟨_, rfl⟩
  rw [hs] at SE DE HS
  have HQ := Lib.hid hs
  clear hs hG
  go_enter Tryd.func13, Tryd.ntmps13
  go_wp2_with (go_at_call 29; with_reducible refine SE.out.mono ?_; rintro e w1 ⟨rfl, hb1⟩)
  refine (DE.out w1 (HG.out.below hb1)).mono ?_
  rintro e w2 ⟨hb2, ⟨rfl, _⟩ | ⟨x, rfl, xa, xf, xe, xd, xp, xb, xr⟩⟩
  · have HB2 := Lib.hid (below_step hb1 hb2)
    have hG2 : Gl A (w2.alloc (.cells zP 28)) := (HG.out.below HB2.out).below ((Below.refl _ _).alloc (Nat.le_refl _) _)
    have SZ := Lib.hid (same_zero _ hG2)
    have e1 : ((decC s : Int) != 0) = true := decC_ne s
    clear hb1 hb2 hG2 SE
    go_wp2_with (go_at_call 14; with_reducible refine SZ.out.mono ?_; rintro e w3 ⟨rfl, hb3⟩)
    go_ret
    exact ⟨rfl, below_step (HB2.out.alloc HB2.out.size _) hb3⟩
  · have HB2 := Lib.hid (below_step hb1 hb2)
    have hb0 : Below w2.heap.size w2 (w2.alloc (.cells x.cs 28)) := (Below.refl _ _).alloc (Nat.le_refl _) _
    rw [HS.out] at xp xb xr
    obtain ⟨r1, r2, _⟩ := read_back xp xb xr
    have hq := HQ.out
    have ER := enc_back (x := x) (t := t) r1 r2 (by rw [hq]; exact xd)
    rw [hq] at ER
    have EN := enc_yes x _ ((HG.out.below HB2.out).below hb0) (xa.below hb0) xf xe (pr_fitW xe xf) (prB_le xe xf).1
    rw [ER] at EN
    have EN := Lib.hid EN
    have HB3 := Lib.hid (below_step HB2.out hb0)
    have XA := Lib.hid (xa.below hb0)
    have PX := Lib.hid (fun (W : World) (hb : Below (w2.alloc (.cells x.cs 28)).heap.size (w2.alloc (.cells x.cs 28)) W) => proc_any x W (HG.out.below (below_step HB3.out hb)) (XA.out.below hb) xf)
    rw [xe] at PX
    have sz : w2.heap.size < (w2.alloc (.cells x.cs 28)).heap.size := by simp
    have SZ := Lib.hid sz
    clear hb1 hb2 hb0 SE xp xb xr xa xf xe xd r1 r2 hq ER sz
    go_wp2_with (first
      | (go_at_call 8; with_reducible refine EN.out.mono ?_; rintro e w3 ⟨rfl, hb3⟩; have HB4 := Lib.hid hb3; have c0 := hb3.cell (p := ⟨w2.heap.size, 0, none⟩) SZ.out; have c1 := hb3.cell (p := ⟨w2.heap.size, 1, none⟩) SZ.out; have c2 := hb3.cell (p := ⟨w2.heap.size, 2, none⟩) SZ.out; have c3 := hb3.cell (p := ⟨w2.heap.size, 3, none⟩) SZ.out; clear hb3)
      | (go_at_call 15; with_reducible refine (PX.out _ HB4.out).mono ?_; rintro e w4 ⟨rfl, hb4⟩))
    go_ret
    exact ⟨rfl, below_step (below_step HB3.out HB4.out) hb4⟩
end Go.Proofs.YtblebjgjomamdaaDoor
