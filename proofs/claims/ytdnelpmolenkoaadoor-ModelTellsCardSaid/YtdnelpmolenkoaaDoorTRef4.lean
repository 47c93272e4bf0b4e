/- What callboardref14.Vars and key return: the very answers of model.Vars, and whether a node's Key may be. Conditions: lengths are lengths. -/
import Derived.Test.YtdnelpmolenkoaaDoorTRef3
namespace Go.Proofs.YtdnelpmolenkoaaDoor
open Go.RowKit Go.Ow

def e04 (r : Bool) : Nat := if r then 0 else 4
theorem anyB_fI {p : Nat → Bool} {k : Nat} : anyB p k = decide (0 ≤ fI p 0 k) := rfl
set_option maxRecDepth 100000 in
set_option maxHeartbeats 8000000 in
theorem rvars_err (o : Option Addr) (m cap : Nat) (f : Nat → Va) (w : World) (h : Vr w o m f) (hf : ∀ k, (f k).fit) (hm : m ≤ 9223372036854775807) :
    Calls Tryd.prog 23 #[.slice o m cap] w fun e w' => e = .returned (.int .i64 (varsE m f)) ∧ Below w.heap.size w w' := by
  by_cases h8 : 8 < m
  · have E := Lib.hid (show varsE m f = 40 by simp [varsE, h8])
    clear h hf
    go_enter Tryd.func23, Tryd.ntmps23
    go_wp2
    go_ret
    exact ⟨ret_int (by rw [E.out]; rfl), Below.refl _ _⟩
  have H := Lib.hid h
  have HF := Lib.hid hf
  clear h hf
  obtain ⟨r, hr⟩ : ∃ r, unlikeF f 0 m = r := ⟨_, rfl⟩
  have hv : varsE m f = e04 r := by rw [← hr]; simp [varsE, h8, e04]
  rw [hv]
  have HR := Lib.hid hr
  clear hr hv
  go_enter Tryd.func23, Tryd.ntmps23
  go_wp2
  go_loopw [3, 4] (fun i _ wr => ∃ j : Nat, j ≤ m ∧ i = .int .i64 j ∧ Hid (unlikeF f j (m - j) = r) ∧ Below w.heap.size w wr) (fun i _ _ => m - (intOf i).toNat)
  case atStart => exact ⟨0, Nat.zero_le _, rfl, HR, Below.refl _ _⟩
  case round =>
    obtain ⟨j, hj, rfl, HK, hB⟩ := hrel
    have HB := Lib.hid hB
    clear hB
    by_cases hlt : j < m
    · have HV := Lib.hid (H.out.below HB.out)
      obtain ⟨b, off, ho, hb, c0, c1, c2, c3⟩ := HV.out j hlt
      subst ho
      have E := Lib.hid (unlike_at f j m hlt)
      have hfit := HF.out j
      obtain ⟨v, hv⟩ : ∃ v, f j = v := ⟨_, rfl⟩
      rw [hv] at c0 c1 c2 c3 E hfit
      have HVJ := Lib.hid hv
      clear hv
      obtain ⟨va, vk, vn, vt⟩ := v
      simp only at c0 c1 c2 c3 E
      obtain ⟨f1, f2, f3, f4, f5⟩ := hfit
      simp only at f1 f2 f3 f4 f5
      have i1 : (j : Int) < (m : Int) := by omega
      have i2 : (0 : Int) ≤ (j : Int) := by omega
      have NM := rname_any va wr f1
      cases hn : isName va
      · have HE : Hid (false = r) := Lib.hid (by have := HK.out; rw [E.out] at this; simpa [varOk, hn] using this)
        rw [hn] at NM
        have NM := Lib.hid NM
        clear hn E
        go_wp2_with (go_at_call 24; refine NM.out.mono ?_; rintro e w2 ⟨rfl, rfl⟩)
        go_ret
        exact ⟨ret_int (by rw [← HE.out]; rfl), HB.out⟩
      rw [hn] at NM
      have NM := Lib.hid NM
      have MY := rmay_any vk vn vt wr f3 f4 f5
      cases hy : mayV vk vn vt
      · have HE : Hid (false = r) := Lib.hid (by have := HK.out; rw [E.out] at this; simpa [varOk, hn, hy] using this)
        rw [hy] at MY
        have MY := Lib.hid MY
        clear hn hy E
        go_wp2_with (first | (go_at_call 24; refine NM.out.mono ?_; rintro e w2 ⟨rfl, rfl⟩) | (go_at_call 60; refine MY.out.mono ?_; rintro e w2 ⟨rfl, hb2⟩; have HB2 := Lib.hid hb2; clear hb2))
        go_ret
        exact ⟨ret_int (by rw [← HE.out]; rfl), below_step HB.out HB2.out⟩
      rw [hy] at MY
      have MY := Lib.hid MY
      by_cases k0 : vk = 0
      · subst k0
        have HE : Hid (false = r) := Lib.hid (by have := HK.out; rw [E.out] at this; simpa [varOk] using this)
        clear hn hy E
        go_wp2_with (first | (go_at_call 24; refine NM.out.mono ?_; rintro e w2 ⟨rfl, rfl⟩) | (go_at_call 60; refine MY.out.mono ?_; rintro e w2 ⟨rfl, hb2⟩; have HB2 := Lib.hid hb2; have c1' : w2.cell? ⟨b, off + j * 4 + 1, none⟩ = some (.int .u8 0) := (by rw [hb2.cell (p := ⟨b, off + j * 4 + 1, none⟩) hb]; exact c1); clear hb2))
        go_ret
        exact ⟨ret_int (by rw [← HE.out]; rfl), below_step HB.out HB2.out⟩
      have q0 : ((vk : Int) == 0) = false := int_ne k0
      obtain ⟨r2, hr2⟩ : ∃ r2, fI (fun i => decide ((f i).nm = va)) 0 j = r2 := ⟨_, rfl⟩
      have HJ : Hid (r = (decide (r2 < 0) && unlikeF f (j + 1) (m - (j + 1)))) := Lib.hid (by
        rw [← HK.out, E.out, varOk, hn, hy]
        dsimp only
        rw [anyB_fI, hr2]
        simp only [ne_eq, k0, not_false_iff, decide_true, Bool.true_and]
        congr 1
        by_cases hh : 0 ≤ r2
        · rw [decide_eq_true hh, decide_eq_false (by omega)]; rfl
        · rw [decide_eq_false hh, decide_eq_true (by omega)]; rfl)
      have HR2 := Lib.hid hr2
      clear hn hy E k0 hr2
      go_wp2_with (first | (go_at_call 24; refine NM.out.mono ?_; rintro e w2 ⟨rfl, rfl⟩) | (go_at_call 60; refine MY.out.mono ?_; rintro e w2 ⟨rfl, hb2⟩; have HB2 := Lib.hid (below_step HB.out hb2); have c1' : w2.cell? ⟨b, off + j * 4 + 1, none⟩ = some (.int .u8 vk) := (by rw [hb2.cell (p := ⟨b, off + j * 4 + 1, none⟩) hb]; exact c1); clear hb2))
      clear c0 c1 c2 c3 c1' HV
      go_loopw [4] (fun i wr2 => ∃ l : Nat, l ≤ j ∧ i = .int .i64 l ∧ Hid (fI (fun i => decide ((f i).nm = va)) l (j - l) = r2) ∧ Below w.heap.size w wr2) (fun i _ => j - (intOf i).toNat)
      case atStart => exact ⟨0, Nat.zero_le _, rfl, HR2, HB2.out⟩
      case round =>
        obtain ⟨l, hl, rfl, HL, hB3⟩ := hrel
        have HB3 := Lib.hid hB3
        clear hB3
        by_cases hlj : l < j
        · have d0 := (H.out.below HB3.out) l (by omega)
          obtain ⟨b', off', e', hb', d0, _⟩ := d0
          cases e'
          obtain ⟨b'', off'', e'', hb'', c0, _⟩ := (H.out.below HB3.out) j hlt
          cases e''
          rw [HVJ.out] at c0
          have E2 := Lib.hid (fI_at (fun i => decide ((f i).nm = va)) l j hlj)
          have i3 : (l : Int) < (m : Int) := by omega
          have i4 : (0 : Int) ≤ (l : Int) := by omega
          by_cases hq : (f l).nm = va
          · have HE : Hid (false = r) := Lib.hid (by
              have := HL.out
              rw [E2.out] at this
              simp only [hq, decide_true, if_true] at this
              rw [HJ.out, decide_eq_false (by omega), Bool.false_and])
            rw [hq] at d0
            clear hq E2
            go_wp2
            go_quiet (fail)
            go_wp2
            go_ret
            exact ⟨ret_int (by rw [← HE.out]; rfl), HB3.out.trans (Below.drewN _ _)⟩
          · have HE : Hid (fI (fun i => decide ((f i).nm = va)) (l + 1) (j - (l + 1)) = r2) := Lib.hid (by
              have := HL.out
              rw [E2.out] at this
              simpa [hq] using this)
            obtain ⟨u, hu⟩ : ∃ u, (f l).nm = u := ⟨_, rfl⟩
            rw [hu] at d0 hq
            have n1 := toList_ne hq
            have n2 := toList_beq hq
            clear hu hq E2
            go_wp2
            go_quiet (fail)
            go_wp2
            go_roundw
            case rel => exact ⟨l + 1, by omega, by go_num, HE, HB3.out.trans (Below.drewN _ _)⟩
            case measure => simp [intOf]; omega
        · obtain rfl : l = j := by omega
          have HE : Hid (unlikeF f (l + 1) (m - (l + 1)) = r) := Lib.hid (by
            have := HL.out
            rw [fI_end] at this
            rw [HJ.out, decide_eq_true (by omega), Bool.true_and])
          go_wp2
          go_roundw
          case rel => exact ⟨l + 1, by omega, by go_num, HE, HB3.out⟩
          case measure => simp [intOf]; omega
    · obtain rfl : j = m := by omega
      have HE : Hid (true = r) := Lib.hid (by have := HK.out; rw [unlike_end] at this; exact this)
      go_wp2
      go_ret
      exact ⟨ret_int (by rw [← HE.out]; rfl), HB.out⟩
end Go.Proofs.YtdnelpmolenkoaaDoor
