/- What callboardref14.Process returns: model.Process's very answer. Conditions: lengths are lengths. -/
import Derived.Test.YtdnelpmolenkoaaDoorTRef7
import Derived.Test.YtdnelpmolenkoaaDoorMProc
namespace Go.Proofs.YtdnelpmolenkoaaDoor
open Go.RowKit Go.Ow

def eThen (e r : Nat) : Nat := if e ≠ 0 then e else r
theorem eThen_0 (r : Nat) : eThen 0 r = r := rfl
theorem eThen_n {e : Nat} (r : Nat) (h : e ≠ 0) : eThen e r = e := if_pos h
theorem eThen_firstE (e : Nat → Nat) (k n : Nat) (h : k < n) : firstE e k (n - k) = eThen (e k) (firstE e (k + 1) (n - (k + 1))) := firstE_at e k n h
theorem Pr.e_then {x : Pr} (h1 : x.nn ≤ 40) (h2 : x.fn ≤ 80) (h3 : x.nn ≠ 0) (h4 : isName x.name = true) :
    x.e = eThen (eThen (varsE x.vm x.vf) (firstE (fun k => (x.nf k).e) 0 x.nn)) (firstE (fun k => flowE (x.ff k)) 0 x.fn) := by
  rw [Pr.e_of h1 h2 h3 h4]
  unfold eThen
  by_cases a : varsE x.vm x.vf = 0 <;> simp [a]

set_option maxRecDepth 100000 in
set_option maxHeartbeats 8000000 in
theorem rproc_few (x : Pr) (w : World) (hx : x.fit) (h : (40 < x.nn ∨ 80 < x.fn) ∨ x.nn = 0 ∨ isName x.name = false) :
    Calls Tryd.prog 20 #[.agg x.cs] w fun r w' => r = .returned (.int .i64 x.e) ∧ Below w.heap.size w w' := by
  obtain ⟨h1, h2, h3, h4, h5, h6, h7, h8, h9, h10⟩ := hx
  by_cases a1 : 40 < x.nn
  · have E := Lib.hid (show x.e = 40 by unfold Pr.e; rw [if_pos (.inl a1)])
    clear h h2 h3 h4
    go_enter Tryd.func20, Tryd.ntmps20
    go_wp2
    go_ret
    exact ⟨ret_int (by rw [E.out]; rfl), (Below.refl _ _).alloc (Nat.le_refl _) _⟩
  by_cases a2 : 80 < x.fn
  · have E := Lib.hid (show x.e = 40 by unfold Pr.e; rw [if_pos (.inr a2)])
    clear h h2 h3 h4
    go_enter Tryd.func20, Tryd.ntmps20
    go_wp2
    go_ret
    exact ⟨ret_int (by rw [E.out]; rfl), (Below.refl _ _).alloc (Nat.le_refl _) _⟩
  have hq : x.nn = 0 ∨ isName x.name = false := by
    rcases h with h | h
    · omega
    · exact h
  have E := Lib.hid (show x.e = 4 by unfold Pr.e; rw [if_neg (by omega), if_pos hq])
  by_cases a3 : x.nn < 1
  · clear h h2 h3 h4 hq
    go_enter Tryd.func20, Tryd.ntmps20
    go_wp2
    go_ret
    exact ⟨ret_int (by rw [E.out]; rfl), (Below.refl _ _).alloc (Nat.le_refl _) _⟩
  · have hn : isName x.name = false := by
      rcases hq with hq | hq
      · omega
      · exact hq
    have NM := fun W => rname_any x.name W h1
    simp only [hn] at NM
    have NM := Lib.hid NM
    clear h h2 h3 h4 hq hn
    go_enter Tryd.func20, Tryd.ntmps20
    go_wp2_with (go_at_call 24; refine (NM.out _).mono ?_; rintro e w1 ⟨rfl, rfl⟩)
    go_ret
    exact ⟨ret_int (by rw [E.out]; rfl), (Below.refl _ _).alloc (Nat.le_refl _) _⟩

set_option maxRecDepth 100000 in
set_option maxHeartbeats 16000000 in
theorem rproc_any (x : Pr) (w : World) (h : x.at w) (hx : x.fit) :
    Calls Tryd.prog 20 #[.agg x.cs] w fun r w' => r = .returned (.int .i64 x.e) ∧ Below w.heap.size w w' := by
  by_cases hq : (40 < x.nn ∨ 80 < x.fn) ∨ x.nn = 0 ∨ isName x.name = false
  · exact rproc_few x w hx hq
  have HB0 := Lib.hid ((Below.refl w.heap.size w).alloc (Nat.le_refl _) (.cells x.cs 30))
  obtain ⟨h1, h2, h3, h4, h5, h6, h7, h8, h9, h10⟩ := hx
  have a1 : x.nn ≤ 40 := by omega
  have a2 : x.fn ≤ 80 := by omega
  have a0 : x.nn ≠ 0 := fun h => hq (.inr (.inl h))
  have a3 : 1 ≤ x.nn := by omega
  have a4 : isName x.name = true := by cases hn : isName x.name; exact absurd (.inr (.inr hn)) hq; rfl
  obtain ⟨r, hr⟩ : ∃ r, x.e = r := ⟨_, rfl⟩
  have HE := Lib.hid ((Pr.e_then a1 a2 a0 a4).symm.trans hr)
  rw [hr]
  have NM := fun W => rname_any x.name W h1
  simp only [a4] at NM
  have NM := Lib.hid NM
  have VR := fun (W : World) (hb : Below w.heap.size w W) => rvars_err x.vo x.vm x.vc x.vf W (h.v.below hb) h2 h5
  have AT := Lib.hid h
  have H3 := Lib.hid h3
  have H4 := Lib.hid h4
  clear h2 h3 h4 h a0 a4 hq hr
  obtain ⟨W0, hW0⟩ : ∃ W, w.alloc (.cells x.cs 30) = W := ⟨_, rfl⟩
  have b2 : W0.cell? ⟨w.heap.size, 2, none⟩ = some (.slice x.no x.nn x.nc) := by rw [← hW0]; simp
  have b3 : W0.cell? ⟨w.heap.size, 3, none⟩ = some (.slice x.fo x.fn x.fc) := by rw [← hW0]; simp
  have hl : w.heap.size < W0.heap.size := by rw [← hW0]; simp
  have HL := Lib.hid hl
  have B2 := Lib.hid b2
  have B3 := Lib.hid b3
  have HW := Lib.hid hW0
  clear b2 b3 hl hW0
  obtain ⟨ve, hve⟩ : ∃ r, varsE x.vm x.vf = r := ⟨_, rfl⟩
  obtain ⟨r1, hr1⟩ : ∃ r, eThen ve (firstE (fun k => (x.nf k).e) 0 x.nn) = r := ⟨_, rfl⟩
  have HE2 : Hid (eThen r1 (firstE (fun k => flowE (x.ff k)) 0 x.fn) = r) := Lib.hid (by rw [← hr1, ← hve]; exact HE.out)
  simp only [hve] at VR
  have VR := Lib.hid VR
  have HR1 := Lib.hid hr1
  clear hve hr1 HE
  go_enter Tryd.func20, Tryd.ntmps20
  go_wp2_with (first | (go_at_call 24; refine (NM.out _).mono ?_; rintro e w1 ⟨rfl, rfl⟩) | (go_at_call 23; refine (VR.out _ HB0.out).mono ?_; rintro e w2 ⟨rfl, hb⟩; have HB2 := Lib.hid (by rw [← HW.out]; exact hb : Below W0.heap.size W0 w2); clear hb))
  go_loopw [3, 4] (fun e i wr => ∃ k e' : Nat, k ≤ x.nn ∧ i = .int .i64 k ∧ e = .int .i64 e' ∧ Hid (eThen e' (firstE (fun k => (x.nf k).e) k (x.nn - k)) = r1) ∧ Below W0.heap.size W0 wr) (fun _ i _ => x.nn - (intOf i).toNat)
  case atStart => exact ⟨0, ve, Nat.zero_le _, rfl, rfl, HR1, HB2.out⟩
  case round =>
    obtain ⟨k, e, hk, rfl, rfl, HK, hB⟩ := hrel
    have HB := Lib.hid hB
    clear hB
    have HBW : Hid (Below w.heap.size w wr) := Lib.hid (below_step (by rw [← HW.out]; exact HB0.out) HB.out)
    have q2 : wr.cell? ⟨w.heap.size, 2, none⟩ = some (.slice x.no x.nn x.nc) := by rw [HB.out.cell (p := ⟨w.heap.size, 2, none⟩) HL.out]; exact B2.out
    have q3 : wr.cell? ⟨w.heap.size, 3, none⟩ = some (.slice x.fo x.fn x.fc) := by rw [HB.out.cell (p := ⟨w.heap.size, 3, none⟩) HL.out]; exact B3.out
    by_cases hc : k < x.nn ∧ e = 0
    · obtain ⟨hlt, rfl⟩ := hc
      obtain ⟨b, off, hno, hb, hat, y0, y1, y2, y3, y4, y5, y6, y7, y8, y9, y10⟩ := (AT.out.n.below HBW.out) k hlt
      rw [hno] at q2
      have E : Hid (eThen (x.nf k).e (firstE (fun k => (x.nf k).e) (k + 1) (x.nn - (k + 1))) = r1) := Lib.hid (by have := HK.out; rw [eThen_0, eThen_firstE _ _ _ hlt] at this; exact this)
      have CA := fun (W : World) (hbw : Below wr.heap.size wr W) => rnode_all (x.nf k) W (hat.below hbw) (H3.out k)
      obtain ⟨v, hv⟩ : ∃ v, x.nf k = v := ⟨_, rfl⟩
      simp only [hv] at y0 y1 y2 y3 y4 y5 y6 y7 y8 y9 y10 E CA
      have CA := Lib.hid CA
      clear hat hno hv q3
      go_wp2_with (go_at_call 21; refine (CA.out _ (Below.refl _ _)).mono ?_; rintro e w3 ⟨rfl, hb3⟩; have HB3 := Lib.hid (below_step HB.out hb3); clear hb3)
      go_roundw
      case rel => exact ⟨k + 1, v.e, by omega, by go_num, rfl, E, HB3.out⟩
      case measure => simp [intOf]; omega
    · have HX : Hid (eThen e (firstE (fun k => flowE (x.ff k)) 0 x.fn) = r) := Lib.hid (by
        have h := HK.out
        by_cases e0 : e = 0
        · obtain rfl : k = x.nn := by omega
          subst e0
          rw [eThen_0, firstE_end] at h
          have h2 := HE2.out
          rw [← h] at h2
          exact h2
        · rw [eThen_n _ e0] at h
          rw [h]
          exact HE2.out)
      have hc2 : (k : Int) < (x.nn : Int) ∧ ((e : Int) == 0) = false ∨ (x.nn : Int) ≤ (k : Int) := by
        by_cases hlt : k < x.nn
        · exact .inl ⟨by omega, int_ne (fun h => hc ⟨hlt, h⟩)⟩
        · exact .inr (by omega)
      clear hc HK
      rcases hc2 with ⟨g1, g2⟩ | g1
      all_goals
        go_wp2
        obtain ⟨wo, rfl⟩ : ∃ wo : World, wo = wr := ⟨_, rfl⟩
        try clear g2
        clear g1 q2 q3
        go_loopw [3, 5] (fun e i wr => ∃ k e' : Nat, k ≤ x.fn ∧ i = .int .i64 k ∧ e = .int .i64 e' ∧ Hid (eThen e' (firstE (fun k => flowE (x.ff k)) k (x.fn - k)) = r) ∧ Below W0.heap.size W0 wr) (fun _ i _ => x.fn - (intOf i).toNat)
        case atStart => exact ⟨0, e, Nat.zero_le _, rfl, rfl, HX, HB.out⟩
        case round =>
          clear HB HBW
          obtain ⟨j, e, hj, rfl, rfl, HK, hB⟩ := hrel
          have HB := Lib.hid hB
          clear hB
          have HBW : Hid (Below w.heap.size w wr) := Lib.hid (below_step (by rw [← HW.out]; exact HB0.out) HB.out)
          have q3 : wr.cell? ⟨w.heap.size, 3, none⟩ = some (.slice x.fo x.fn x.fc) := by rw [HB.out.cell (p := ⟨w.heap.size, 3, none⟩) HL.out]; exact B3.out
          by_cases hc : j < x.fn ∧ e = 0
          · obtain ⟨hlt, rfl⟩ := hc
            obtain ⟨b, off, hno, hb, y0, y1, y2, y3⟩ := (AT.out.f.below HBW.out) j hlt
            rw [hno] at q3
            have E : Hid (eThen (flowE (x.ff j)) (firstE (fun k => flowE (x.ff k)) (j + 1) (x.fn - (j + 1))) = r) := Lib.hid (by have := HK.out; rw [eThen_0, eThen_firstE _ _ _ hlt] at this; exact this)
            have CA := fun (W : World) => rflow_any (x.ff j) W (H4.out j)
            obtain ⟨v, hv⟩ : ∃ v, x.ff j = v := ⟨_, rfl⟩
            simp only [hv] at y0 y1 y2 y3 E CA
            have CA := Lib.hid CA
            clear hno hv
            go_wp2_with (go_at_call 22; refine (CA.out _).mono ?_; rintro e w3 ⟨rfl, hb3⟩; have HB3 := Lib.hid (below_step HB.out hb3); clear hb3)
            go_roundw
            case rel => exact ⟨j + 1, flowE v, by omega, by go_num, rfl, E, HB3.out⟩
            case measure => simp [intOf]; omega
          · have HX : Hid (e = r) := Lib.hid (by
              have h := HK.out
              by_cases e0 : e = 0
              · obtain rfl : j = x.fn := by omega
                subst e0
                rw [eThen_0, firstE_end] at h
                exact h
              · rw [eThen_n _ e0] at h
                exact h)
            have hc2 : (j : Int) < (x.fn : Int) ∧ ((e : Int) == 0) = false ∨ (x.fn : Int) ≤ (j : Int) := by
              by_cases hlt : j < x.fn
              · exact .inl ⟨by omega, int_ne (fun h => hc ⟨hlt, h⟩)⟩
              · exact .inr (by omega)
            clear hc HK
            rcases hc2 with ⟨g1, g2⟩ | g1
            all_goals
              go_wp2
              go_ret
              exact ⟨ret_int (by rw [HX.out]), HBW.out⟩
end Go.Proofs.YtdnelpmolenkoaaDoor
