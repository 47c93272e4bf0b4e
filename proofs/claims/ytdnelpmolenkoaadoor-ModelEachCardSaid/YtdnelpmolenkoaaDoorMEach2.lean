/- callboardlaw14.ModelEach returns true: the walk. Conditions: the tables as laid; lengths are lengths. -/
import Derived.Test.YtdnelpmolenkoaaDoorMEach
import Derived.Deep.DeepCutAuto
namespace Go.Proofs.YtdnelpmolenkoaaDoor
open Go.RowKit Go.Ow

set_option maxRecDepth 100000 in
set_option maxHeartbeats 16000000 in
theorem each_run {A : Nat → Nat × Nat} (x : Pr) (w : World) (hG : Gl A w) (h : x.at w) (hx : x.fit) :
    Calls Tryd.prog 6 #[.agg x.cs] w fun r w' => r = .returned (.bool true) ∧ Below w.heap.size w w' := by
  have HB0 := Lib.hid ((Below.refl w.heap.size w).alloc (Nat.le_refl _) (.cells x.cs 30))
  have LG := Lib.hid (large_any x (w.alloc (.cells x.cs 30)) (h.below HB0.out) hx)
  have AW := Lib.hid (fun (W : World) (hb : Below w.heap.size w W) => mawake_true W (hG.below hb))
  have NM := fun (W : World) (hb : Below w.heap.size w W) => name_any x.name W (hG.below hb) hx.1
  have VR := fun (W : World) (hb : Below w.heap.size w W) => vars_any x.vo x.vm x.vc x.vf W (hG.below hb) (h.v.below hb) hx.2.1 hx.2.2.2.2.1 hx.2.2.2.2.2.2.2.1
  have PR := fun (W : World) (hb : Below w.heap.size w W) => proc_any x W (hG.below hb) (h.below hb) hx
  have EC := x.e_cases
  have EE := Lib.hid (each_e x)
  obtain ⟨h1, h2, h3, h4, h5, h6, h7, h8, h9, h10⟩ := hx
  have AT := Lib.hid h
  have HG := Lib.hid hG
  have H3 := Lib.hid h3
  have H4 := Lib.hid h4
  clear h2 h3 h4 hG h
  obtain ⟨W0, hW0⟩ : ∃ W, w.alloc (.cells x.cs 30) = W := ⟨_, rfl⟩
  have b0 : W0.cell? ⟨w.heap.size, 0, none⟩ = some (.string x.name) := by rw [← hW0]; simp
  have b1 : W0.cell? ⟨w.heap.size, 1, none⟩ = some (.slice x.vo x.vm x.vc) := by rw [← hW0]; simp
  have b2 : W0.cell? ⟨w.heap.size, 2, none⟩ = some (.slice x.no x.nn x.nc) := by rw [← hW0]; simp
  have b3 : W0.cell? ⟨w.heap.size, 3, none⟩ = some (.slice x.fo x.fn x.fc) := by rw [← hW0]; simp
  have hl : w.heap.size < W0.heap.size := by rw [← hW0]; simp
  have BX : Hid (∀ W : World, Below W0.heap.size W0 W → W.cell? ⟨w.heap.size, 0, none⟩ = some (.string x.name) ∧ W.cell? ⟨w.heap.size, 1, none⟩ = some (.slice x.vo x.vm x.vc) ∧ W.cell? ⟨w.heap.size, 2, none⟩ = some (.slice x.no x.nn x.nc) ∧ W.cell? ⟨w.heap.size, 3, none⟩ = some (.slice x.fo x.fn x.fc)) := Lib.hid (fun W hb =>
    ⟨by rw [hb.cell (p := ⟨w.heap.size, 0, none⟩) hl]; exact b0, by rw [hb.cell (p := ⟨w.heap.size, 1, none⟩) hl]; exact b1, by rw [hb.cell (p := ⟨w.heap.size, 2, none⟩) hl]; exact b2, by rw [hb.cell (p := ⟨w.heap.size, 3, none⟩) hl]; exact b3⟩)
  have BW : Hid (∀ W : World, Below W0.heap.size W0 W → Below w.heap.size w W) := Lib.hid (fun W hb => below_step (by rw [← hW0]; exact HB0.out) hb)
  have HW := Lib.hid hW0
  clear b0 b1 b2 b3 hl hW0
  go_enter Tryd.func6, Tryd.ntmps6
  go_wp2_with fail
  refine LG.out.mono ?_
  rintro e w1 ⟨b, rfl, -, hb⟩
  rw [HW.out] at hb
  have HB1 := Lib.hid hb
  clear hb
  cases b
  case true =>
    clear NM VR PR
    go_wp2_with (go_at_call 10; refine (AW.out _ (BW.out _ HB1.out)).mono ?_; rintro e w2 ⟨rfl, hb2⟩)
    go_ret
    exact ⟨rfl, below_step (BW.out _ HB1.out) hb2⟩
  case false =>
    go_upto_region 3 with (go_at_call 10; refine (AW.out _ (BW.out _ HB1.out)).mono ?_; rintro e w2 ⟨rfl, hb2⟩; have HB2 := Lib.hid (below_step HB1.out hb2); clear hb2)
    go_cut [3] (fun s W => s = .bool (each0 x) ∧ Below W0.heap.size W0 W)
    case first =>
      clear PR EC
      obtain ⟨q0, q1, q2, q3⟩ := BX.out _ HB2.out
      have NM := NM _ (BW.out _ HB2.out)
      obtain ⟨s1, e1⟩ : ∃ s, isName x.name = s := ⟨_, rfl⟩
      rw [e1] at NM
      have E1 := Lib.hid e1
      have NM := Lib.hid NM
      clear e1
      have hv := varsE_cases x.vm x.vf
      obtain ⟨s2, e2⟩ : ∃ s, varsE x.vm x.vf = s := ⟨_, rfl⟩
      simp only [e2] at VR hv
      have E2 := Lib.hid e2
      have VR := Lib.hid VR
      clear e2
      cases s1
      · clear VR
        go_wp2_with (go_at_call 13; refine NM.out.mono ?_; rintro e w3 ⟨rfl, hb⟩; have HB3 := Lib.hid (below_step HB2.out hb); clear hb)
        go_meet
        exact ⟨by simp [each0, E1.out], HB3.out⟩
      · by_cases z2 : s2 = 0
        · subst z2
          clear hv
          by_cases z3 : 1 ≤ x.nn
          · by_cases z4 : x.nn ≤ 40
            · by_cases z5 : x.fn ≤ 80
              · go_wp2_with (first | (go_at_call 13; refine NM.out.mono ?_; rintro e w3 ⟨rfl, hb⟩; have HB3 := Lib.hid (below_step HB2.out hb); obtain ⟨y0, y1, y2, y3⟩ := BX.out _ HB3.out; clear hb q0 q1 q2 q3) | (go_at_call 15; refine (VR.out _ (BW.out _ HB3.out)).mono ?_; rintro e w4 ⟨rfl, hb⟩; have HB4 := Lib.hid (below_step HB3.out hb); obtain ⟨u0, u1, u2, u3⟩ := BX.out _ HB4.out; clear hb y0 y1 y2 y3))
                go_meet
                exact ⟨by simp [each0, E1.out, E2.out, z3, z4, z5]; omega, HB4.out⟩
              · have z5' : 80 < x.fn := by omega
                go_wp2_with (first | (go_at_call 13; refine NM.out.mono ?_; rintro e w3 ⟨rfl, hb⟩; have HB3 := Lib.hid (below_step HB2.out hb); obtain ⟨y0, y1, y2, y3⟩ := BX.out _ HB3.out; clear hb q0 q1 q2 q3) | (go_at_call 15; refine (VR.out _ (BW.out _ HB3.out)).mono ?_; rintro e w4 ⟨rfl, hb⟩; have HB4 := Lib.hid (below_step HB3.out hb); obtain ⟨u0, u1, u2, u3⟩ := BX.out _ HB4.out; clear hb y0 y1 y2 y3))
                go_meet
                exact ⟨by simp [each0, z5]; omega, HB4.out⟩
            · have z4' : 40 < x.nn := by omega
              go_wp2_with (first | (go_at_call 13; refine NM.out.mono ?_; rintro e w3 ⟨rfl, hb⟩; have HB3 := Lib.hid (below_step HB2.out hb); obtain ⟨y0, y1, y2, y3⟩ := BX.out _ HB3.out; clear hb q0 q1 q2 q3) | (go_at_call 15; refine (VR.out _ (BW.out _ HB3.out)).mono ?_; rintro e w4 ⟨rfl, hb⟩; have HB4 := Lib.hid (below_step HB3.out hb); obtain ⟨u0, u1, u2, u3⟩ := BX.out _ HB4.out; clear hb y0 y1 y2 y3))
              go_meet
              exact ⟨by simp [each0, z4], HB4.out⟩
          · have z3' : x.nn < 1 := by omega
            go_wp2_with (first | (go_at_call 13; refine NM.out.mono ?_; rintro e w3 ⟨rfl, hb⟩; have HB3 := Lib.hid (below_step HB2.out hb); obtain ⟨y0, y1, y2, y3⟩ := BX.out _ HB3.out; clear hb q0 q1 q2 q3) | (go_at_call 15; refine (VR.out _ (BW.out _ HB3.out)).mono ?_; rintro e w4 ⟨rfl, hb⟩; have HB4 := Lib.hid (below_step HB3.out hb); obtain ⟨u0, u1, u2, u3⟩ := BX.out _ HB4.out; clear hb y0 y1 y2 y3))
            go_meet
            exact ⟨by simp [each0, z3], HB4.out⟩
        · have z2' : ((s2 : Int) == 0) = false := by simp [z2]
          clear hv
          go_wp2_with (first | (go_at_call 13; refine NM.out.mono ?_; rintro e w3 ⟨rfl, hb⟩; have HB3 := Lib.hid (below_step HB2.out hb); obtain ⟨y0, y1, y2, y3⟩ := BX.out _ HB3.out; clear hb q0 q1 q2 q3) | (go_at_call 15; refine (VR.out _ (BW.out _ HB3.out)).mono ?_; rintro e w4 ⟨rfl, hb⟩; have HB4 := Lib.hid (below_step HB3.out hb); clear hb))
          go_meet
          exact ⟨by simp [each0, E2.out, z2], HB4.out⟩
    case rest =>
      obtain ⟨rfl, hB⟩ := hcut
      clear NM VR HB1 HB2
      obtain ⟨r1, hr1⟩ : ∃ r, (each0 x && allF (eachN x) 0 x.nn) = r := ⟨_, rfl⟩
      obtain ⟨r2, hr2⟩ : ∃ r, (r1 && allF (eachF x) 0 x.fn) = r := ⟨_, rfl⟩
      have ER := EE.out
      rw [hr1, hr2] at ER
      have ER := Lib.hid ER
      have PR := Lib.hid PR
      have HR1 := Lib.hid hr1
      have HR2 := Lib.hid hr2
      have HB := Lib.hid hB
      have EC := Lib.hid EC
      clear EE hr1 hr2 hB
      obtain ⟨W1, rfl⟩ : ∃ W : World, W = wc := ⟨_, rfl⟩
      go_wp2
      go_loopw [3, 4] (fun s i wr => ∃ (k : Nat) (b : Bool), k ≤ x.nn ∧ i = .int .i64 k ∧ s = .bool b ∧ Hid ((b && allF (eachN x) k (x.nn - k)) = r1) ∧ Below W0.heap.size W0 wr) (fun _ i _ => x.nn - (intOf i).toNat)
      case atStart => exact ⟨0, _, Nat.zero_le _, rfl, rfl, HR1, HB.out⟩
      case round =>
        clear HB
        obtain ⟨k, b, hk, rfl, rfl, HK, hB⟩ := hrel
        have HB := Lib.hid hB
        obtain ⟨q0, q1, q2, q3⟩ := BX.out _ hB
        clear hB
        by_cases hlt : k < x.nn
        · have E := Lib.hid (allF_at (eachN x) k x.nn hlt)
          obtain ⟨bb, off, hno, hb, hat, y0, y1, y2, y3, y4, y5, y6, y7, y8, y9, y10⟩ := (AT.out.n.below (BW.out _ HB.out)) k hlt
          cases b
          · have HE : Hid ((false && allF (eachN x) (k + 1) (x.nn - (k + 1))) = r1) := Lib.hid (by have := HK.out; simpa using this)
            clear hat hno y0 y1 y2 y3 y4 y5 y6 y7 y8 y9 y10 E
            go_wp2
            go_roundw
            case rel => exact ⟨k + 1, false, by omega, by go_num, rfl, HE, HB.out⟩
            case measure => simp [intOf]; omega
          · rw [hno] at q2
            have CA := Lib.hid (node_all (x.nf k) wr (HG.out.below (BW.out _ HB.out)) hat (H3.out k))
            have HN : Hid (eachN x k = decide ((x.nf k).e = 0)) := Lib.hid rfl
            have hek := (x.nf k).e_cases
            obtain ⟨v, hv⟩ : ∃ v, x.nf k = v := ⟨_, rfl⟩
            rw [hv] at y0 y1 y2 y3 y4 y5 y6 y7 y8 y9 y10 CA HN hek
            clear hat hno hv
            rcases hek with e0 | e0 | e0
            · rw [e0] at CA HN
              have HE : Hid ((true && allF (eachN x) (k + 1) (x.nn - (k + 1))) = r1) := Lib.hid (by have := HK.out; rw [E.out, HN.out] at this; simpa using this)
              clear e0 E HN
              go_wp2_with (go_at_call 12; refine CA.out.mono ?_; rintro e w3 ⟨rfl, hb3⟩; have HB3 := Lib.hid (below_step HB.out hb3); clear hb3)
              go_roundw
              case rel => exact ⟨k + 1, true, by omega, by go_num, rfl, HE, HB3.out⟩
              case measure => simp [intOf]; omega
            all_goals
              rw [e0] at CA HN
              have HE : Hid ((false && allF (eachN x) (k + 1) (x.nn - (k + 1))) = r1) := Lib.hid (by have := HK.out; rw [E.out, HN.out] at this; simpa using this)
              clear e0 E HN
              go_wp2_with (go_at_call 12; refine CA.out.mono ?_; rintro e w3 ⟨rfl, hb3⟩; have HB3 := Lib.hid (below_step HB.out hb3); clear hb3)
              go_roundw
              case rel => exact ⟨k + 1, false, by omega, by go_num, rfl, HE, HB3.out⟩
              case measure => simp [intOf]; omega
        · obtain rfl : k = x.nn := by omega
          have hbr : b = r1 := by have := HK.out; rw [allF_end, Bool.and_true] at this; exact this
          subst hbr
          clear HK
          go_wp2
          obtain ⟨wo, rfl⟩ : ∃ wo : World, wo = wr := ⟨_, rfl⟩
          go_loopw [3, 5] (fun s i wr => ∃ (k : Nat) (c : Bool), k ≤ x.fn ∧ i = .int .i64 k ∧ s = .bool c ∧ Hid ((c && allF (eachF x) k (x.fn - k)) = r2) ∧ Below W0.heap.size W0 wr) (fun _ i _ => x.fn - (intOf i).toNat)
          case atStart => exact ⟨0, _, Nat.zero_le _, rfl, rfl, HR2, HB.out⟩
          case round =>
            clear HB q0 q1 q2 q3
            obtain ⟨j, c, hj, rfl, rfl, HK, hB⟩ := hrel
            have HB := Lib.hid hB
            obtain ⟨q0, q1, q2, q3⟩ := BX.out _ hB
            clear hB
            by_cases hlt : j < x.fn
            · have E := Lib.hid (allF_at (eachF x) j x.fn hlt)
              obtain ⟨bb, off, hno, hb, y0, y1, y2, y3⟩ := (AT.out.f.below (BW.out _ HB.out)) j hlt
              cases c
              · have HE : Hid ((false && allF (eachF x) (j + 1) (x.fn - (j + 1))) = r2) := Lib.hid (by have := HK.out; simpa using this)
                clear hno y0 y1 y2 y3 E
                go_wp2
                go_roundw
                case rel => exact ⟨j + 1, false, by omega, by go_num, rfl, HE, HB.out⟩
                case measure => simp [intOf]; omega
              · rw [hno] at q3
                have CA := Lib.hid (flow_any (x.ff j) wr (H4.out j))
                have HN : Hid (eachF x j = decide (flowE (x.ff j) = 0)) := Lib.hid rfl
                have hek := flowE_cases (x.ff j)
                obtain ⟨v, hv⟩ : ∃ v, x.ff j = v := ⟨_, rfl⟩
                rw [hv] at y0 y1 y2 y3 CA HN hek
                clear hno hv
                rcases hek with e0 | e0 | e0
                · rw [e0] at CA HN
                  have HE : Hid ((true && allF (eachF x) (j + 1) (x.fn - (j + 1))) = r2) := Lib.hid (by have := HK.out; rw [E.out, HN.out] at this; simpa using this)
                  clear e0 E HN
                  go_wp2_with (go_at_call 17; refine CA.out.mono ?_; rintro e w3 ⟨rfl, hb3⟩; have HB3 := Lib.hid (below_step HB.out hb3); clear hb3)
                  go_roundw
                  case rel => exact ⟨j + 1, true, by omega, by go_num, rfl, HE, HB3.out⟩
                  case measure => simp [intOf]; omega
                all_goals
                  rw [e0] at CA HN
                  have HE : Hid ((false && allF (eachF x) (j + 1) (x.fn - (j + 1))) = r2) := Lib.hid (by have := HK.out; rw [E.out, HN.out] at this; simpa using this)
                  clear e0 E HN
                  go_wp2_with (go_at_call 17; refine CA.out.mono ?_; rintro e w3 ⟨rfl, hb3⟩; have HB3 := Lib.hid (below_step HB.out hb3); clear hb3)
                  go_roundw
                  case rel => exact ⟨j + 1, false, by omega, by go_num, rfl, HE, HB3.out⟩
                  case measure => simp [intOf]; omega
            · obtain rfl : j = x.fn := by omega
              have hcr : c = r2 := by have := HK.out; rw [allF_end, Bool.and_true] at this; exact this
              subst hcr
              clear HK HR2
              have PR1 := PR.out _ (BW.out _ HB.out)
              rcases EC.out with e0 | e0 | e0
              · have hc := ER.out.1 e0
                subst hc
                rw [e0] at PR1
                have PR1 := Lib.hid PR1
                clear e0
                go_wp2_with (go_at_call 16; refine PR1.out.mono ?_; rintro e w3 ⟨rfl, hb3⟩)
                go_ret
                exact ⟨rfl, below_step (BW.out _ HB.out) hb3⟩
              all_goals
                have hc : c = false := by cases c; rfl; exact absurd (ER.out.2 rfl) (by rw [e0]; decide)
                subst hc
                rw [e0] at PR1
                have PR1 := Lib.hid PR1
                clear e0
                go_wp2_with (go_at_call 16; refine PR1.out.mono ?_; rintro e w3 ⟨rfl, hb3⟩)
                go_ret
                exact ⟨rfl, below_step (BW.out _ HB.out) hb3⟩
end Go.Proofs.YtdnelpmolenkoaaDoor
