/- What callboardref14.Same returns: whether two processes are the same. Conditions: lengths are lengths. -/
import Derived.Test.YtjakdbahopbggaaGreatDoorZSRefA
import Derived.Deep.DeepCutAuto
namespace Go.Proofs.YtjakdbahopbggaaGreatDoor
open Go.RowKit Go.Ow Go.Inv2

theorem sameN_eq {d e : Nd} (h : sameN d e = true) : d = e := (sameN_iff d e).1 h
theorem sameN_refl (d : Nd) : sameN d d = true := (sameN_iff d d).2 rfl
theorem eqN_of {m : Nat} {f g : Nat → Nod} : eqN m m f g = allF (fun k => sameK (f k) (g k)) 0 m := by unfold eqN; rw [decide_eq_true rfl, Bool.true_and]
theorem not_same {d e : Nd} (h : d ≠ e) (b : Bool) : (!(sameN d e && b)) = true := by
  cases hs : sameN d e with
  | false => rfl
  | true => exact absurd (sameN_eq hs) h
theorem eqF_of {m : Nat} {f g : Nat → Fl} : eqF m m f g = allF (fun k => sameF (f k) (g k)) 0 m := by unfold eqF; rw [decide_eq_true rfl, Bool.true_and]

set_option maxRecDepth 100000 in
set_option maxHeartbeats 40000000 in
theorem rsame_any (x y : Pr) (w : World) (hx : x.at w) (hy : y.at w) (fx : x.fit) (fy : y.fit) :
    Calls Tryz.prog 34 #[.agg x.cs, .agg y.cs] w fun r w' => r = .returned (.bool (sameP x y)) ∧ Below w.heap.size w w' := by
  have HB0 := Lib.hid (((Below.refl w.heap.size w).alloc (Nat.le_refl _) (.cells x.cs 64)).alloc (by simp) (.cells y.cs 64))
  obtain ⟨r, hr⟩ : ∃ r, sameP x y = r := ⟨_, rfl⟩
  rw [hr]
  have HX := Lib.hid hx
  have HY := Lib.hid hy
  have VV := fun (W : World) (hb : Below w.heap.size w W) => rvars_any x.vo y.vo x.vm y.vm x.vc y.vc x.vf y.vf W (hx.v.below hb) (hy.v.below hb) fx.2.2.2.2.1 fy.2.2.2.2.1
  have FX := Lib.hid fx.2.2.1
  have FY := Lib.hid fy.2.2.1
  have lx1 := fx.2.2.2.2.2.1
  have lx2 := fx.2.2.2.2.2.2.1
  have ly1 := fy.2.2.2.2.2.1
  have ly2 := fy.2.2.2.2.2.2.1
  clear hx hy fx fy
  by_cases hn : x.name = y.name
  case neg =>
    have HF : Hid (false = r) := Lib.hid (by rw [← hr]; simp [sameP, hn])
    have n1 := toList_ne hn
    have n2 := toList_beq hn
    clear hn hr VV
    go_enter Tryz.func34, Tryz.ntmps34
    go_wp2
    go_ret
    exact ⟨ret_bool HF.out, HB0.out⟩
  have n1 : (x.name.toList == y.name.toList) = true := by rw [hn]; simp
  have HN := Lib.hid hn
  cases hv : eqV x.vm y.vm x.vf y.vf
  case false =>
    have HF : Hid (false = r) := Lib.hid (by rw [← hr]; simp [sameP, hv])
    simp only [hv] at VV
    have VV := Lib.hid VV
    clear hv hr
    go_enter Tryz.func34, Tryz.ntmps34
    go_wp2_with (go_at_call 51; refine (VV.out _ HB0.out).mono ?_; rintro e w1 ⟨rfl, hb⟩)
    go_ret
    exact ⟨ret_bool HF.out, below_step HB0.out hb⟩
  simp only [hv] at VV
  have VV := Lib.hid VV
  by_cases hnn : x.nn = y.nn
  case neg =>
    have HF : Hid (false = r) := Lib.hid (by rw [← hr]; simp [sameP, eqN, hnn])
    have q1 : ((x.nn : Int) != (y.nn : Int)) = true := by simp; omega
    clear hv hr hnn hn
    go_enter Tryz.func34, Tryz.ntmps34
    go_wp2_with (go_at_call 51; refine (VV.out _ HB0.out).mono ?_; rintro e w1 ⟨rfl, hb⟩; have HB1 := Lib.hid (below_step HB0.out hb); obtain ⟨hc, hf⟩ := bcell hb; clear hb hf)
    go_ret
    exact ⟨ret_bool HF.out, HB1.out⟩
  have q1 : ((x.nn : Int) != (y.nn : Int)) = false := by simp; omega
  have q1' : ((x.nn : Int) == (y.nn : Int)) = true := by simp; omega
  by_cases hfn : x.fn = y.fn
  case neg =>
    have HF : Hid (false = r) := Lib.hid (by rw [← hr]; simp [sameP, eqF, hfn])
    have q2 : ((x.fn : Int) != (y.fn : Int)) = true := by simp; omega
    clear hv hr hnn hn hfn
    go_enter Tryz.func34, Tryz.ntmps34
    go_wp2_with (go_at_call 51; refine (VV.out _ HB0.out).mono ?_; rintro e w1 ⟨rfl, hb⟩; have HB1 := Lib.hid (below_step HB0.out hb); obtain ⟨hc, hf⟩ := bcell hb; clear hb hf)
    go_ret
    exact ⟨ret_bool HF.out, HB1.out⟩
  have q2 : ((x.fn : Int) != (y.fn : Int)) = false := by simp; omega
  have q2' : ((x.fn : Int) == (y.fn : Int)) = true := by simp; omega
  obtain ⟨r1, hr1⟩ : ∃ r, allF (fun k => sameK (x.nf k) (y.nf k)) 0 x.nn = r := ⟨_, rfl⟩
  obtain ⟨r2, hr2⟩ : ∃ r, allF (fun k => sameF (x.ff k) (y.ff k)) 0 x.fn = r := ⟨_, rfl⟩
  have HR : Hid ((r1 && r2) = r) := Lib.hid (by
    rw [← hr, ← hr1, ← hr2, sameP, hn, hv, ← hnn, ← hfn, eqN_of, eqF_of, decide_eq_true rfl, Bool.true_and, Bool.true_and])
  have HR1 := Lib.hid hr1
  have HR2 := Lib.hid hr2
  have HNN := Lib.hid hnn
  have HFN := Lib.hid hfn
  clear hr hr1 hr2 hn hv hnn hfn
  obtain ⟨W0, hW0⟩ : ∃ W, (w.alloc (.cells x.cs 64)).alloc (.cells y.cs 64) = W := ⟨_, rfl⟩
  have X2 : Hid (W0.cell? ⟨w.heap.size, 2, none⟩ = some (.slice x.no x.nn x.nc)) := Lib.hid (by rw [← hW0]; simp)
  have X3 : Hid (W0.cell? ⟨w.heap.size, 3, none⟩ = some (.slice x.fo x.fn x.fc)) := Lib.hid (by rw [← hW0]; simp)
  have Y2 : Hid (W0.cell? ⟨w.heap.size + 1, 2, none⟩ = some (.slice y.no y.nn y.nc)) := Lib.hid (by rw [← hW0]; simp)
  have Y3 : Hid (W0.cell? ⟨w.heap.size + 1, 3, none⟩ = some (.slice y.fo y.fn y.fc)) := Lib.hid (by rw [← hW0]; simp)
  have hl : w.heap.size + 1 < W0.heap.size := by rw [← hW0]; simp
  have HL := Lib.hid hl
  have HW := Lib.hid hW0
  have HBW0 : Hid (Below w.heap.size w W0) := Lib.hid (by rw [← hW0]; exact HB0.out)
  clear hl hW0
  go_enter Tryz.func34, Tryz.ntmps34
  go_wp2_with (go_at_call 51; refine (VV.out _ HB0.out).mono ?_; rintro e w1 ⟨rfl, hb⟩; have HB1 := Lib.hid (by rw [← HW.out]; exact hb : Below W0.heap.size W0 w1); obtain ⟨hc, hf⟩ := bcell hb; clear hb hf)
  clear hc
  go_loopw [5] (fun i wr => ∃ k : Nat, k ≤ x.nn ∧ i = .int .i64 k ∧ Hid (allF (fun k => sameK (x.nf k) (y.nf k)) k (x.nn - k) = r1) ∧ Below W0.heap.size W0 wr) (fun i _ => x.nn - (intOf i).toNat)
  case atStart => exact ⟨0, Nat.zero_le _, rfl, HR1, HB1.out⟩
  case round =>
    clear HB1
    obtain ⟨k, hk, rfl, HK, hB⟩ := hrel
    have HB := Lib.hid hB
    clear hB
    have HBW : Hid (Below w.heap.size w wr) := Lib.hid (below_step HBW0.out HB.out)
    have x2 : wr.cell? ⟨w.heap.size, 2, none⟩ = some (.slice x.no x.nn x.nc) := by rw [HB.out.cell (p := ⟨w.heap.size, 2, none⟩) (by have := HL.out; simp only; omega)]; exact X2.out
    by_cases hlt : k < x.nn
    · obtain ⟨b, off, hno, hb, hat, c0, c1, c2, c3, c4, c5, c6, c7, c8, c9, c10⟩ := (HX.out.n.below HBW.out) k hlt
      obtain ⟨b2, off2, hno2, hb2, hat2, d0, d1, d2, d3, d4, d5, d6, d7, d8, d9, d10⟩ := (HY.out.n.below HBW.out) k (by have := HNN.out; omega)
      rw [hno] at x2
      have hl2 : w.heap.size + 1 < wr.heap.size := by have := HL.out; have := HB.out.size; omega
      have CX : Hid (∀ W, Below wr.heap.size wr W → W.cell? ⟨w.heap.size, 2, none⟩ = some (.slice (some ⟨b, off, none⟩) x.nn x.nc)) := Lib.hid fun W h => by rw [h.cell (p := ⟨w.heap.size, 2, none⟩) (by simp only; omega)]; exact x2
      have CY : Hid (∀ W, Below wr.heap.size wr W → W.cell? ⟨w.heap.size + 1, 2, none⟩ = some (.slice (some ⟨b2, off2, none⟩) y.nn y.nc)) := Lib.hid fun W h => by rw [h.cell (p := ⟨w.heap.size + 1, 2, none⟩) hl2, HB.out.cell (p := ⟨w.heap.size + 1, 2, none⟩) HL.out, ← hno2]; exact Y2.out
      have CC := Lib.hid (And.intro c0 (And.intro c1 (And.intro c2 (And.intro c3 (And.intro c4 (And.intro c5 (And.intro c6 (And.intro c7 (And.intro c8 (And.intro c9 c10))))))))))
      have DD := Lib.hid (And.intro d0 (And.intro d1 (And.intro d2 (And.intro d3 (And.intro d4 (And.intro d5 (And.intro d6 (And.intro d7 (And.intro d8 (And.intro d9 d10))))))))))
      have AT1 := Lib.hid hat
      have AT2 := Lib.hid hat2
      have HBB := Lib.hid hb
      have HBB2 := Lib.hid hb2
      have i1 : (k : Int) < (x.nn : Int) := by omega
      have i1' : (k : Int) < (y.nn : Int) := by have := HNN.out; omega
      have i2 : (0 : Int) ≤ (k : Int) := by omega
      clear c0 c1 c2 c3 c4 c5 c6 c7 c8 c9 c10 d0 d1 d2 d3 d4 d5 d6 d7 d8 d9 d10 hat hat2 hno hno2 hb hb2 hl2
      go_upto_region 6 with fail
      clear x2
      refine wp_region_asrt3 (by kernel_rfl) (fun vs W => Below wr.heap.size wr W ∧ SmJ wr.heap.size vs W) (smF w.heap.size (w.heap.size + 1) b off b2 off2 k x.nn x.nc y.nn y.nc (x.nf k) (y.nf k)) smDep smNeed smAnc smKill 14 [some 47, some 48, some 49, some 50, some 51, some 52, some 53, some 54, some 55, some 56, some 6, some 7, none, none] rfl rfl (by kernel_rfl) smDep_anc ⟨(Below.refl _ _).drew, SmJ.start _ _⟩ (fun j h => smAnc_out h) (fun j hj => by match j, hj with | _ + 14, _ => trivial) (fun j h => smDep_out h) ⟨?_, ?_, ?_, ?_, ?_, ?_, ?_, ?_, ?_, ?_, ?_, ?_, ?_, ?_, trivial⟩ ?_
      · refine Step3.mk (oi := _) rfl [] (fun cs b h => by cases h) (by kernel_rfl) (fun vs W hI hA => ?_)
        simp only [List.map]
        simp only [putR]
        refine SOp.val (v := .pointer (some ⟨w.heap.size, 2, none⟩)) (w' := W) (by kernel_rfl) (by go_simp) ⟨⟨hI.1, hI.2.keep _ (by decide) (by decide) (Nat.le_refl _)⟩, upd_self _ _ _, fun _ _ _ _ h => h⟩
      · refine Step3.mk (oi := _) rfl [(47, 0)] (fun cs b h => by cases h) (by kernel_rfl) (fun vs W hI hA => ?_)
        simp only [List.map]
        have h0 : vs 0 = .pointer (some ⟨w.heap.size, 2, none⟩) := hA 0 (by decide)
        rw [h0]
        have q := CX.out W hI.1
        simp only [putR, Act.put, List.setIfInBounds_toArray, List.set_cons_zero, List.set_cons_succ]
        refine SOp.val (v := .slice (some ⟨b, off, none⟩) x.nn x.nc) (w' := W) (by kernel_rfl) (by go_simp) ⟨⟨hI.1, hI.2.keep _ (by decide) (by decide) (Nat.le_refl _)⟩, upd_self _ _ _, fun _ _ _ _ h => h⟩
      · refine Step3.mk (oi := _) rfl [] (fun cs b h => by cases h) (by kernel_rfl) (fun vs W hI hA => ?_)
        simp only [List.map]
        simp only [putR]
        refine SOp.val (v := .int .i64 k) (w' := W) (by kernel_rfl) (by go_simp) ⟨⟨hI.1, hI.2.keep _ (by decide) (by decide) (Nat.le_refl _)⟩, upd_self _ _ _, fun _ _ _ _ h => h⟩
      · refine Step3.mk (oi := _) rfl [(48, 1), (49, 2)] (fun cs b h => by cases h) (by kernel_rfl) (fun vs W hI hA => ?_)
        simp only [List.map]
        have h1 : vs 1 = .slice (some ⟨b, off, none⟩) x.nn x.nc := hA 1 (by decide)
        have h2 : vs 2 = .int .i64 k := hA 2 (by decide)
        rw [h1, h2]
        simp only [putR, Act.put, List.setIfInBounds_toArray, List.set_cons_zero, List.set_cons_succ]
        refine SOp.val (v := .pointer (some ⟨b, off + k * 11, none⟩)) (w' := W) (by kernel_rfl) (by go_simp) ⟨⟨hI.1, hI.2.keep _ (by decide) (by decide) (Nat.le_refl _)⟩, upd_self _ _ _, fun _ _ _ _ h => h⟩
      · refine Step3.mk (oi := _) rfl [(50, 3)] (fun cs b h => by cases h) (by kernel_rfl) (fun vs W hI hA => ?_)
        simp only [List.map]
        have h3 : vs 3 = .pointer (some ⟨b, off + k * 11, none⟩) := hA 3 (by decide)
        rw [h3]
        obtain ⟨e0, e1, e2, e3, e4, e5, e6, e7, e8, e9, e10⟩ := CC.out
        have f0 := hI.1.cell (p := ⟨b, off + k * 11, none⟩) HBB.out
        have f1 := hI.1.cell (p := ⟨b, off + k * 11 + 1, none⟩) HBB.out
        have f2 := hI.1.cell (p := ⟨b, off + k * 11 + 2, none⟩) HBB.out
        have f3 := hI.1.cell (p := ⟨b, off + k * 11 + 3, none⟩) HBB.out
        have f4 := hI.1.cell (p := ⟨b, off + k * 11 + 4, none⟩) HBB.out
        have f5 := hI.1.cell (p := ⟨b, off + k * 11 + 5, none⟩) HBB.out
        have f6 := hI.1.cell (p := ⟨b, off + k * 11 + 6, none⟩) HBB.out
        have f7 := hI.1.cell (p := ⟨b, off + k * 11 + 7, none⟩) HBB.out
        have f8 := hI.1.cell (p := ⟨b, off + k * 11 + 8, none⟩) HBB.out
        have f9 := hI.1.cell (p := ⟨b, off + k * 11 + 9, none⟩) HBB.out
        have f10 := hI.1.cell (p := ⟨b, off + k * 11 + 10, none⟩) HBB.out
        rw [e0] at f0
        rw [e1] at f1
        rw [e2] at f2
        rw [e3] at f3
        rw [e4] at f4
        rw [e5] at f5
        rw [e6] at f6
        rw [e7] at f7
        rw [e8] at f8
        rw [e9] at f9
        rw [e10] at f10
        clear e0 e1 e2 e3 e4 e5 e6 e7 e8 e9 e10
        simp only [putR, Act.put, List.setIfInBounds_toArray, List.set_cons_zero, List.set_cons_succ]
        refine SOp.val (v := .agg (x.nf k).cs) (w' := W) (by kernel_rfl) (by go_simp) ⟨⟨hI.1, hI.2.keep _ (by decide) (by decide) (Nat.le_refl _)⟩, upd_self _ _ _, fun _ _ _ _ h => h⟩
      · refine Step3.mk (oi := _) rfl [] (fun cs b h => by cases h) (by kernel_rfl) (fun vs W hI hA => ?_)
        simp only [List.map]
        simp only [putR]
        refine SOp.val (v := .pointer (some ⟨w.heap.size + 1, 2, none⟩)) (w' := W) (by kernel_rfl) (by go_simp) ⟨⟨hI.1, hI.2.keep _ (by decide) (by decide) (Nat.le_refl _)⟩, upd_self _ _ _, fun _ _ _ _ h => h⟩
      · refine Step3.mk (oi := _) rfl [(52, 5)] (fun cs b h => by cases h) (by kernel_rfl) (fun vs W hI hA => ?_)
        simp only [List.map]
        have h5 : vs 5 = .pointer (some ⟨w.heap.size + 1, 2, none⟩) := hA 5 (by decide)
        rw [h5]
        have q := CY.out W hI.1
        simp only [putR, Act.put, List.setIfInBounds_toArray, List.set_cons_zero, List.set_cons_succ]
        refine SOp.val (v := .slice (some ⟨b2, off2, none⟩) y.nn y.nc) (w' := W) (by kernel_rfl) (by go_simp) ⟨⟨hI.1, hI.2.keep _ (by decide) (by decide) (Nat.le_refl _)⟩, upd_self _ _ _, fun _ _ _ _ h => h⟩
      · refine Step3.mk (oi := _) rfl [] (fun cs b h => by cases h) (by kernel_rfl) (fun vs W hI hA => ?_)
        simp only [List.map]
        simp only [putR]
        refine SOp.val (v := .int .i64 k) (w' := W) (by kernel_rfl) (by go_simp) ⟨⟨hI.1, hI.2.keep _ (by decide) (by decide) (Nat.le_refl _)⟩, upd_self _ _ _, fun _ _ _ _ h => h⟩
      · refine Step3.mk (oi := _) rfl [(53, 6), (54, 7)] (fun cs b h => by cases h) (by kernel_rfl) (fun vs W hI hA => ?_)
        simp only [List.map]
        have h6 : vs 6 = .slice (some ⟨b2, off2, none⟩) y.nn y.nc := hA 6 (by decide)
        have h7 : vs 7 = .int .i64 k := hA 7 (by decide)
        rw [h6, h7]
        simp only [putR, Act.put, List.setIfInBounds_toArray, List.set_cons_zero, List.set_cons_succ]
        refine SOp.val (v := .pointer (some ⟨b2, off2 + k * 11, none⟩)) (w' := W) (by kernel_rfl) (by go_simp) ⟨⟨hI.1, hI.2.keep _ (by decide) (by decide) (Nat.le_refl _)⟩, upd_self _ _ _, fun _ _ _ _ h => h⟩
      · refine Step3.mk (oi := _) rfl [(55, 8)] (fun cs b h => by cases h) (by kernel_rfl) (fun vs W hI hA => ?_)
        simp only [List.map]
        have h8 : vs 8 = .pointer (some ⟨b2, off2 + k * 11, none⟩) := hA 8 (by decide)
        rw [h8]
        obtain ⟨e0, e1, e2, e3, e4, e5, e6, e7, e8, e9, e10⟩ := DD.out
        have f0 := hI.1.cell (p := ⟨b2, off2 + k * 11, none⟩) HBB2.out
        have f1 := hI.1.cell (p := ⟨b2, off2 + k * 11 + 1, none⟩) HBB2.out
        have f2 := hI.1.cell (p := ⟨b2, off2 + k * 11 + 2, none⟩) HBB2.out
        have f3 := hI.1.cell (p := ⟨b2, off2 + k * 11 + 3, none⟩) HBB2.out
        have f4 := hI.1.cell (p := ⟨b2, off2 + k * 11 + 4, none⟩) HBB2.out
        have f5 := hI.1.cell (p := ⟨b2, off2 + k * 11 + 5, none⟩) HBB2.out
        have f6 := hI.1.cell (p := ⟨b2, off2 + k * 11 + 6, none⟩) HBB2.out
        have f7 := hI.1.cell (p := ⟨b2, off2 + k * 11 + 7, none⟩) HBB2.out
        have f8 := hI.1.cell (p := ⟨b2, off2 + k * 11 + 8, none⟩) HBB2.out
        have f9 := hI.1.cell (p := ⟨b2, off2 + k * 11 + 9, none⟩) HBB2.out
        have f10 := hI.1.cell (p := ⟨b2, off2 + k * 11 + 10, none⟩) HBB2.out
        rw [e0] at f0
        rw [e1] at f1
        rw [e2] at f2
        rw [e3] at f3
        rw [e4] at f4
        rw [e5] at f5
        rw [e6] at f6
        rw [e7] at f7
        rw [e8] at f8
        rw [e9] at f9
        rw [e10] at f10
        clear e0 e1 e2 e3 e4 e5 e6 e7 e8 e9 e10
        simp only [putR, Act.put, List.setIfInBounds_toArray, List.set_cons_zero, List.set_cons_succ]
        refine SOp.val (v := .agg (y.nf k).cs) (w' := W) (by kernel_rfl) (by go_simp) ⟨⟨hI.1, hI.2.keep _ (by decide) (by decide) (Nat.le_refl _)⟩, upd_self _ _ _, fun _ _ _ _ h => h⟩
      · refine Step3.mk (oi := _) rfl [] (fun cs b h => by cases h) (by kernel_rfl) (fun vs W hI hA => ?_)
        simp only [List.map]
        simp only [putR]
        refine SOp.val (v := .pointer (some ⟨W.heap.size, 0, none⟩)) (w' := W.alloc (.cells #[.string ⟨#[]⟩, .int .u8 0, .int .i64 0, .int .i64 0, .int .u8 0, .string ⟨#[]⟩, .string ⟨#[]⟩, .string ⟨#[]⟩, .bool false, .slice none 0 0, .slice none 0 0] 111)) (by kernel_rfl) (by go_simp) ⟨⟨hI.1.alloc hI.1.size _, hI.2.a10 hI.1.size _⟩, ⟨W.heap.size, upd_self _ _ _, heap_alloc_new _ _⟩, fun _ _ _ _ h => smF_mono ((Below.refl _ _).alloc (Nat.le_refl _) _) h⟩
      · refine Step3.mk (oi := _) rfl [] (fun cs b h => by cases h) (by kernel_rfl) (fun vs W hI hA => ?_)
        simp only [List.map]
        simp only [putR]
        refine SOp.val (v := .pointer (some ⟨W.heap.size, 0, none⟩)) (w' := W.alloc (.cells #[.string ⟨#[]⟩, .int .u8 0, .int .i64 0, .int .i64 0, .int .u8 0, .string ⟨#[]⟩, .string ⟨#[]⟩, .string ⟨#[]⟩, .bool false, .slice none 0 0, .slice none 0 0] 111)) (by kernel_rfl) (by go_simp) ⟨⟨hI.1.alloc hI.1.size _, hI.2.a11 hI.1.size _⟩, ⟨W.heap.size, upd_self _ _ _, heap_alloc_new _ _⟩, fun _ _ _ _ h => smF_mono ((Below.refl _ _).alloc (Nat.le_refl _) _) h⟩
      · refine Step3.mk (oi := _) rfl [(6, 10), (51, 4)] (fun cs b h => by cases h) (by kernel_rfl) (fun vs W hI hA => ?_)
        simp only [List.map]
        have h4 : vs 4 = .agg (x.nf k).cs := hA 4 (by decide)
        rw [h4]
        obtain ⟨g, hu, hh⟩ := hA 10 (by decide)
        replace hu : vs 10 = .pointer (some ⟨g, 0, none⟩) := hu
        have hg := hI.2.a g hu
        rw [hu]
        simp only [putR, Act.put, List.setIfInBounds_toArray, List.set_cons_zero, List.set_cons_succ]
        have k0 := cell_in hh 0
        have k1 := cell_in hh 1
        have k2 := cell_in hh 2
        have k3 := cell_in hh 3
        have k4 := cell_in hh 4
        have k5 := cell_in hh 5
        have k6 := cell_in hh 6
        have k7 := cell_in hh 7
        have k8 := cell_in hh 8
        have k9 := cell_in hh 9
        have k10 := cell_in hh 10
        have kf := froz_in hh
        simp at k0 k1 k2 k3 k4 k5 k6 k7 k8 k9 k10
        have hbt : But g W (((((((((((W.setCell ⟨g, 0, none⟩ (.string (x.nf k).d.name)).setCell ⟨g, 1, none⟩ (.int .u8 (x.nf k).d.kind)).setCell ⟨g, 2, none⟩ (.int .i64 (x.nf k).d.inn)).setCell ⟨g, 3, none⟩ (.int .i64 (x.nf k).d.on)).setCell ⟨g, 4, none⟩ (.int .u8 (x.nf k).d.event)).setCell ⟨g, 5, none⟩ (.string (x.nf k).d.key)).setCell ⟨g, 6, none⟩ (.string (x.nf k).d.text)).setCell ⟨g, 7, none⟩ (.string (x.nf k).d.set)).setCell ⟨g, 8, none⟩ (.bool (x.nf k).d.breaks)).setCell ⟨g, 9, none⟩ (.slice (x.nf k).o (x.nf k).m (x.nf k).c)).setCell ⟨g, 10, none⟩ (.slice (x.nf k).p (x.nf k).n (x.nf k).q)) := turned11 W g _ _ _ _ _ _ _ _ _ _ _
        refine SOp.done (w' := (((((((((((W.setCell ⟨g, 0, none⟩ (.string (x.nf k).d.name)).setCell ⟨g, 1, none⟩ (.int .u8 (x.nf k).d.kind)).setCell ⟨g, 2, none⟩ (.int .i64 (x.nf k).d.inn)).setCell ⟨g, 3, none⟩ (.int .i64 (x.nf k).d.on)).setCell ⟨g, 4, none⟩ (.int .u8 (x.nf k).d.event)).setCell ⟨g, 5, none⟩ (.string (x.nf k).d.key)).setCell ⟨g, 6, none⟩ (.string (x.nf k).d.text)).setCell ⟨g, 7, none⟩ (.string (x.nf k).d.set)).setCell ⟨g, 8, none⟩ (.bool (x.nf k).d.breaks)).setCell ⟨g, 9, none⟩ (.slice (x.nf k).o (x.nf k).m (x.nf k).c)).setCell ⟨g, 10, none⟩ (.slice (x.nf k).p (x.nf k).n (x.nf k).q))) (by kernel_rfl) (by go_simp) ⟨⟨(((((((((((hI.1.setCell hg.1 _).setCell hg.1 _).setCell hg.1 _).setCell hg.1 _).setCell hg.1 _).setCell hg.1 _).setCell hg.1 _).setCell hg.1 _).setCell hg.1 _).setCell hg.1 _).setCell hg.1 _), hI.2.keep _ (by decide) (by decide) hbt.size⟩, ?_, ?_⟩
        · exact ⟨g, hu, stored11 hh _ _ _ _ _ _ _ _ _ _ _⟩
        · intro j a1 a2 a3 a4
          by_cases e : j = 11
          · subst e
            obtain ⟨g2, b1, b2⟩ := a4
            refine ⟨g2, b1, ?_⟩
            have hne : g2 ≠ g := fun e => by subst e; exact hI.2.ne _ hu ((upd_ne vs undef (show 11 ≠ 12 by decide)).symm.trans b1)
            rw [hbt.block g2 (Array.getElem?_eq_some_iff.1 b2).1 hne]
            exact b2
          · exact smKeep [11] (i := 12) (by decide) j _ a1 a2 a3 (by simp [e]) a4
      · refine Step3.mk (oi := _) rfl [(7, 11), (56, 9)] (fun cs b h => by cases h) (by kernel_rfl) (fun vs W hI hA => ?_)
        simp only [List.map]
        have h9 : vs 9 = .agg (y.nf k).cs := hA 9 (by decide)
        rw [h9]
        obtain ⟨g, hu, hh⟩ := hA 11 (by decide)
        replace hu : vs 11 = .pointer (some ⟨g, 0, none⟩) := hu
        have hg := hI.2.b g hu
        rw [hu]
        simp only [putR, Act.put, List.setIfInBounds_toArray, List.set_cons_zero, List.set_cons_succ]
        have k0 := cell_in hh 0
        have k1 := cell_in hh 1
        have k2 := cell_in hh 2
        have k3 := cell_in hh 3
        have k4 := cell_in hh 4
        have k5 := cell_in hh 5
        have k6 := cell_in hh 6
        have k7 := cell_in hh 7
        have k8 := cell_in hh 8
        have k9 := cell_in hh 9
        have k10 := cell_in hh 10
        have kf := froz_in hh
        simp at k0 k1 k2 k3 k4 k5 k6 k7 k8 k9 k10
        have hbt : But g W (((((((((((W.setCell ⟨g, 0, none⟩ (.string (y.nf k).d.name)).setCell ⟨g, 1, none⟩ (.int .u8 (y.nf k).d.kind)).setCell ⟨g, 2, none⟩ (.int .i64 (y.nf k).d.inn)).setCell ⟨g, 3, none⟩ (.int .i64 (y.nf k).d.on)).setCell ⟨g, 4, none⟩ (.int .u8 (y.nf k).d.event)).setCell ⟨g, 5, none⟩ (.string (y.nf k).d.key)).setCell ⟨g, 6, none⟩ (.string (y.nf k).d.text)).setCell ⟨g, 7, none⟩ (.string (y.nf k).d.set)).setCell ⟨g, 8, none⟩ (.bool (y.nf k).d.breaks)).setCell ⟨g, 9, none⟩ (.slice (y.nf k).o (y.nf k).m (y.nf k).c)).setCell ⟨g, 10, none⟩ (.slice (y.nf k).p (y.nf k).n (y.nf k).q)) := turned11 W g _ _ _ _ _ _ _ _ _ _ _
        refine SOp.done (w' := (((((((((((W.setCell ⟨g, 0, none⟩ (.string (y.nf k).d.name)).setCell ⟨g, 1, none⟩ (.int .u8 (y.nf k).d.kind)).setCell ⟨g, 2, none⟩ (.int .i64 (y.nf k).d.inn)).setCell ⟨g, 3, none⟩ (.int .i64 (y.nf k).d.on)).setCell ⟨g, 4, none⟩ (.int .u8 (y.nf k).d.event)).setCell ⟨g, 5, none⟩ (.string (y.nf k).d.key)).setCell ⟨g, 6, none⟩ (.string (y.nf k).d.text)).setCell ⟨g, 7, none⟩ (.string (y.nf k).d.set)).setCell ⟨g, 8, none⟩ (.bool (y.nf k).d.breaks)).setCell ⟨g, 9, none⟩ (.slice (y.nf k).o (y.nf k).m (y.nf k).c)).setCell ⟨g, 10, none⟩ (.slice (y.nf k).p (y.nf k).n (y.nf k).q))) (by kernel_rfl) (by go_simp) ⟨⟨(((((((((((hI.1.setCell hg.1 _).setCell hg.1 _).setCell hg.1 _).setCell hg.1 _).setCell hg.1 _).setCell hg.1 _).setCell hg.1 _).setCell hg.1 _).setCell hg.1 _).setCell hg.1 _).setCell hg.1 _), hI.2.keep _ (by decide) (by decide) hbt.size⟩, ?_, ?_⟩
        · exact ⟨g, hu, stored11 hh _ _ _ _ _ _ _ _ _ _ _⟩
        · intro j a1 a2 a3 a4
          by_cases e : j = 12
          · subst e
            obtain ⟨g2, b1, b2⟩ := a4
            refine ⟨g2, b1, ?_⟩
            have hne : g2 ≠ g := fun e => by subst e; exact hI.2.ne _ ((upd_ne vs undef (show 10 ≠ 13 by decide)).symm.trans b1) hu
            rw [hbt.block g2 (Array.getElem?_eq_some_iff.1 b2).1 hne]
            exact b2
          · exact smKeep [12] (i := 13) (by decide) j _ a1 a2 a3 (by simp [e]) a4
      · intro vs W hI hφ
        obtain ⟨g, hu, hh⟩ := hφ 12 (fun k _ => by simp [smKill])
        obtain ⟨g2, hu2, hh2⟩ := hφ 13 (fun k _ => by simp [smKill])
        replace hu : vs 10 = .pointer (some ⟨g, 0, none⟩) := hu
        replace hu2 : vs 11 = .pointer (some ⟨g2, 0, none⟩) := hu2
        simp only [putAll, Act.put, List.setIfInBounds_toArray, List.set_cons_zero, List.set_cons_succ]
        rw [hu, hu2]
        have HBI := Lib.hid hI.1
        have HH := Lib.hid hh
        have HH2 := Lib.hid hh2
        clear hφ hu hu2 hh hh2 hI
        obtain ⟨X, hX⟩ : ∃ X, x.nf k = X := ⟨_, rfl⟩
        obtain ⟨Y, hY⟩ : ∃ X, y.nf k = X := ⟨_, rfl⟩
        have A1 : Hid (X.at W) := Lib.hid (by rw [← hX]; exact AT1.out.below HBI.out)
        have A2 : Hid (Y.at W) := Lib.hid (by rw [← hY]; exact AT2.out.below HBI.out)
        have F1 : Hid (X.fit) := Lib.hid (by rw [← hX]; exact FX.out k)
        have F2 : Hid (Y.fit) := Lib.hid (by rw [← hY]; exact FY.out k)
        have E : Hid (allF (fun k => sameK (x.nf k) (y.nf k)) k (x.nn - k) = (sameK X Y && allF (fun k => sameK (x.nf k) (y.nf k)) (k + 1) (x.nn - (k + 1)))) := Lib.hid (by rw [← hX, ← hY]; exact allF_at (fun k => sameK (x.nf k) (y.nf k)) k x.nn hlt)
        rw [hX] at HH
        rw [hY] at HH2
        clear hX hY CC DD CX CY HBB HBB2 AT1 AT2
        go_upto_region 7 with fail
        go_cut [133] (fun s W' => s = .bool (!sameK X Y) ∧ Below W.heap.size W W')
        case first => as_aux_lemma =>
          have z0 := cell_in HH.out 0
          have z1 := cell_in HH.out 1
          have z2 := cell_in HH.out 2
          have z3 := cell_in HH.out 3
          have z4 := cell_in HH.out 4
          have z5 := cell_in HH.out 5
          have z6 := cell_in HH.out 6
          have z7 := cell_in HH.out 7
          have z8 := cell_in HH.out 8
          have z9 := cell_in HH.out 9
          have z10 := cell_in HH.out 10
          have y0 := cell_in HH2.out 0
          have y1 := cell_in HH2.out 1
          have y2 := cell_in HH2.out 2
          have y3 := cell_in HH2.out 3
          have y4 := cell_in HH2.out 4
          have y5 := cell_in HH2.out 5
          have y6 := cell_in HH2.out 6
          have y7 := cell_in HH2.out 7
          have y8 := cell_in HH2.out 8
          have y9 := cell_in HH2.out 9
          have y10 := cell_in HH2.out 10
          have VV : Hid (∀ W1, Below W.heap.size W W1 → Calls Tryz.prog 51 #[.slice X.o X.m X.c, .slice Y.o Y.m Y.c] W1 fun e w' => e = .returned (.bool (eqV X.m Y.m X.f Y.f)) ∧ Below W1.heap.size W1 w') := Lib.hid fun W1 h => rvars_any X.o Y.o X.m Y.m X.c Y.c X.f Y.f W1 (A1.out.1.below h) (A2.out.1.below h) F1.out.2.2.2.1 F2.out.2.2.2.1
          have TT : Hid (∀ W1, Below W.heap.size W W1 → Calls Tryz.prog 52 #[.slice X.p X.n X.q, .slice Y.p Y.n Y.q] W1 fun e w' => e = .returned (.bool (eqS X.n Y.n X.g Y.g)) ∧ Below W1.heap.size W1 w') := Lib.hid fun W1 h => rtexts_any X.p Y.p X.n Y.n X.q Y.q X.g Y.g W1 (A1.out.2.below h) (A2.out.2.below h) F1.out.2.2.2.2.1 F2.out.2.2.2.2.1
          have hgz := (Array.getElem?_eq_some_iff.1 HH.out).1
          have hgz2 := (Array.getElem?_eq_some_iff.1 HH2.out).1
          have SK : Hid ((sameN X.d Y.d && (eqV X.m Y.m X.f Y.f && eqS X.n Y.n X.g Y.g)) = sameK X Y) := Lib.hid rfl
          obtain ⟨v, hv⟩ : ∃ v, eqV X.m Y.m X.f Y.f = v := ⟨_, rfl⟩
          obtain ⟨t, ht⟩ : ∃ v, eqS X.n Y.n X.g Y.g = v := ⟨_, rfl⟩
          obtain ⟨s, hs⟩ : ∃ v, sameK X Y = v := ⟨_, rfl⟩
          have HS : Hid (∀ b, (!s) = b → Value.bool b = .bool (!sameK X Y)) := Lib.hid (fun b h => by rw [hs, h])
          rw [hv, ht, hs] at SK
          rw [hv] at VV
          rw [ht] at TT
          clear hv ht hs A1 A2 F1 F2 E HH HH2 HB HBW HBI HK HX HY FX FY HR HR1 HR2 HNN HFN X2 X3 Y2 Y3 HL HW HBW0 HN q1 q1' q2 q2' i1 i1' lx1 lx2 ly1 ly2 hlt hk HB0
          obtain ⟨⟨a0, a1, a2, a3, a4, a5, a6, a7, a8⟩, xo, xm, xc, xf, xp, xn, xq, xg⟩ := X
          obtain ⟨⟨b0, b1, b2, b3, b4, b5, b6, b7, b8⟩, yo, ym, yc, yf, yp, yn, yq, yg⟩ := Y
          simp at z0 z1 z2 z3 z4 z5 z6 z7 z8 z9 z10 y0 y1 y2 y3 y4 y5 y6 y7 y8 y9 y10
          simp only at VV TT SK
          by_cases e : a0 = b0
          case neg =>
            have HF : Hid ((!s) = true) := Lib.hid (by rw [← SK.out]; exact not_same (fun h => e (congrArg Nd.name h)) _)
            have n1 := toList_ne e
            have n2 := toList_beq e
            clear e SK
            go_wp2_with fail
            go_meet
            exact ⟨HS.out true HF.out, Below.refl _ _⟩
          subst e
          by_cases e : a1 = b1
          case neg =>
            have HF : Hid ((!s) = true) := Lib.hid (by rw [← SK.out]; exact not_same (fun h => e (congrArg Nd.kind h)) _)
            have n1 : ((a1 : Int) != (b1 : Int)) = true := b9n e
            have n2 : ((a1 : Int) == (b1 : Int)) = false := b8n e
            clear e SK
            go_wp2_with fail
            go_meet
            exact ⟨HS.out true HF.out, Below.refl _ _⟩
          subst e
          by_cases e : a2 = b2
          case neg =>
            have HF : Hid ((!s) = true) := Lib.hid (by rw [← SK.out]; exact not_same (fun h => e (congrArg Nd.inn h)) _)
            have n1 : (a2 != b2) = true := by simpa using e
            have n2 : (a2 == b2) = false := by simpa using e
            clear e SK
            go_wp2_with fail
            go_meet
            exact ⟨HS.out true HF.out, Below.refl _ _⟩
          subst e
          by_cases e : a3 = b3
          case neg =>
            have HF : Hid ((!s) = true) := Lib.hid (by rw [← SK.out]; exact not_same (fun h => e (congrArg Nd.on h)) _)
            have n1 : (a3 != b3) = true := by simpa using e
            have n2 : (a3 == b3) = false := by simpa using e
            clear e SK
            go_wp2_with fail
            go_meet
            exact ⟨HS.out true HF.out, Below.refl _ _⟩
          subst e
          by_cases e : a4 = b4
          case neg =>
            have HF : Hid ((!s) = true) := Lib.hid (by rw [← SK.out]; exact not_same (fun h => e (congrArg Nd.event h)) _)
            have n1 : ((a4 : Int) != (b4 : Int)) = true := b9n e
            have n2 : ((a4 : Int) == (b4 : Int)) = false := b8n e
            clear e SK
            go_wp2_with fail
            go_meet
            exact ⟨HS.out true HF.out, Below.refl _ _⟩
          subst e
          by_cases e : a5 = b5
          case neg =>
            have HF : Hid ((!s) = true) := Lib.hid (by rw [← SK.out]; exact not_same (fun h => e (congrArg Nd.key h)) _)
            have n1 := toList_ne e
            have n2 := toList_beq e
            clear e SK
            go_wp2_with fail
            go_meet
            exact ⟨HS.out true HF.out, Below.refl _ _⟩
          subst e
          by_cases e : a6 = b6
          case neg =>
            have HF : Hid ((!s) = true) := Lib.hid (by rw [← SK.out]; exact not_same (fun h => e (congrArg Nd.text h)) _)
            have n1 := toList_ne e
            have n2 := toList_beq e
            clear e SK
            go_wp2_with fail
            go_meet
            exact ⟨HS.out true HF.out, Below.refl _ _⟩
          subst e
          by_cases e : a7 = b7
          case neg =>
            have HF : Hid ((!s) = true) := Lib.hid (by rw [← SK.out]; exact not_same (fun h => e (congrArg Nd.set h)) _)
            have n1 := toList_ne e
            have n2 := toList_beq e
            clear e SK
            go_wp2_with fail
            go_meet
            exact ⟨HS.out true HF.out, Below.refl _ _⟩
          subst e
          by_cases e : a8 = b8
          case neg =>
            have HF : Hid ((!s) = true) := Lib.hid (by rw [← SK.out]; exact not_same (fun h => e (congrArg Nd.breaks h)) _)
            have n1 : (a8 != b8) = true := by simpa using e
            have n2 : (a8 == b8) = false := by simpa using e
            clear e SK
            go_wp2_with fail
            go_meet
            exact ⟨HS.out true HF.out, Below.refl _ _⟩
          subst e
          have HF : Hid ((v && t) = s) := Lib.hid (by rw [← SK.out, sameN_refl, Bool.true_and])
          have HBR := Lib.hid (Below.refl W.heap.size W)
          clear SK
          cases v
          · go_wp2_with (go_at_call 51; refine (VV.out _ HBR.out).mono ?_; rintro e w1 ⟨rfl, hb⟩)
            go_meet
            exact ⟨HS.out _ (by rw [← HF.out]; rfl), hb⟩
          · go_wp2_with (first | (go_at_call 51; refine (VV.out _ HBR.out).mono ?_; rintro e w1 ⟨rfl, hb⟩; have HB1 := Lib.hid hb; obtain ⟨hc, hf⟩ := bcell hb; clear hb hf) | (go_at_call 52; refine (TT.out _ HB1.out).mono ?_; rintro e w2 ⟨rfl, hb2⟩))
            go_meet
            exact ⟨HS.out _ (by rw [← HF.out]; cases t <;> rfl), below_step HB1.out hb2⟩
        case rest =>
          obtain ⟨rfl, hB7⟩ := hcut
          have HB7 := Lib.hid (below_step HBI.out hB7)
          clear hB7 HH HH2 HBI A1 A2 F1 F2
          cases hs : sameK X Y
          · have HF : Hid (false = r) := Lib.hid (by have := HK.out; rw [E.out, hs, Bool.false_and] at this; rw [← HR.out, ← this]; rfl)
            clear hs
            go_wp2_with fail
            go_ret
            exact ⟨ret_bool HF.out, below_step HBW.out HB7.out⟩
          · have HK2 : Hid (allF (fun k => sameK (x.nf k) (y.nf k)) (k + 1) (x.nn - (k + 1)) = r1) := Lib.hid (by have := HK.out; rw [E.out, hs, Bool.true_and] at this; exact this)
            clear hs E HK
            go_wp2_with fail
            go_roundw
            case rel => exact ⟨k + 1, by omega, by go_num, HK2, below_step HB.out HB7.out⟩
            case measure => simp [intOf]; omega
    · obtain rfl : k = x.nn := by omega
      have HR2' : Hid (r2 = r) := Lib.hid (by have := HK.out; rw [allF_end] at this; rw [← HR.out, ← this]; rfl)
      have x3 : wr.cell? ⟨w.heap.size, 3, none⟩ = some (.slice x.fo x.fn x.fc) := by rw [HB.out.cell (p := ⟨w.heap.size, 3, none⟩) (by have := HL.out; simp only; omega)]; exact X3.out
      have HBL := Lib.hid HB.out
      clear HK hlt hk HR
      go_wp2_with fail
      clear x2 x3
      go_loopw [8] (fun i wr => ∃ k : Nat, k ≤ x.fn ∧ i = .int .i64 k ∧ Hid (allF (fun k => sameF (x.ff k) (y.ff k)) k (x.fn - k) = r2) ∧ Below W0.heap.size W0 wr) (fun i _ => x.fn - (intOf i).toNat)
      case atStart => exact ⟨0, Nat.zero_le _, rfl, HR2, HBL.out⟩
      case round =>
        clear HBL HB HBW
        obtain ⟨k, hk, rfl, HK, hB⟩ := hrel
        have HB := Lib.hid hB
        clear hB
        have HBW : Hid (Below w.heap.size w wr) := Lib.hid (below_step HBW0.out HB.out)
        have x3 : wr.cell? ⟨w.heap.size, 3, none⟩ = some (.slice x.fo x.fn x.fc) := by rw [HB.out.cell (p := ⟨w.heap.size, 3, none⟩) (by have := HL.out; simp only; omega)]; exact X3.out
        by_cases hlt : k < x.fn
        · have y3 : wr.cell? ⟨w.heap.size + 1, 3, none⟩ = some (.slice y.fo y.fn y.fc) := by rw [HB.out.cell (p := ⟨w.heap.size + 1, 3, none⟩) HL.out]; exact Y3.out
          obtain ⟨b, off, hno, hb, c0, c1, c2, c3⟩ := (HX.out.f.below HBW.out) k hlt
          obtain ⟨b', off', hno2, hb', d0, d1, d2, d3⟩ := (HY.out.f.below HBW.out) k (by have := HFN.out; omega)
          rw [hno] at x3
          rw [hno2] at y3
          have E := Lib.hid (allF_at (fun k => sameF (x.ff k) (y.ff k)) k x.fn hlt)
          have i1 : (k : Int) < (x.fn : Int) := by omega
          have i1' : (k : Int) < (y.fn : Int) := by have := HFN.out; omega
          have i2 : (0 : Int) ≤ (k : Int) := by omega
          obtain ⟨u, hu⟩ : ∃ u, x.ff k = u := ⟨_, rfl⟩
          obtain ⟨v, hv⟩ : ∃ u, y.ff k = u := ⟨_, rfl⟩
          rw [hu] at c0 c1 c2 c3 E
          rw [hv] at d0 d1 d2 d3 E
          clear hu hv hno hno2
          obtain ⟨ka, na, a, ta⟩ := u
          obtain ⟨ka', na', a', ta'⟩ := v
          simp only at c0 c1 c2 c3 d0 d1 d2 d3
          by_cases q : sameF ⟨ka, na, a, ta⟩ ⟨ka', na', a', ta'⟩ = true
          · have HE : Hid (allF (fun k => sameF (x.ff k) (y.ff k)) (k + 1) (x.fn - (k + 1)) = r2) := Lib.hid (by have := HK.out; rw [E.out, q, Bool.true_and] at this; exact this)
            obtain ⟨rfl, rfl, rfl, rfl⟩ : ka = ka' ∧ na = na' ∧ a = a' ∧ ta = ta' := of_decide_eq_true q
            clear q E
            go_wp2
            go_quiet (fail)
            go_wp2
            go_roundw
            case rel => exact ⟨k + 1, by omega, by go_num, HE, HB.out.trans (Below.drewN _ _)⟩
            case measure => simp [intOf]; omega
          · have HE : Hid (false = r) := Lib.hid (by have := HK.out; rw [E.out, eq_false_of_ne_true q, Bool.false_and] at this; rw [← HR2'.out]; exact this)
            have q' : ka ≠ ka' ∨ (ka = ka' ∧ na ≠ na') ∨ (ka = ka' ∧ na = na' ∧ a ≠ a') ∨ (ka = ka' ∧ na = na' ∧ a = a' ∧ ta ≠ ta') := by
              have q2 : ¬ (ka = ka' ∧ na = na' ∧ a = a' ∧ ta = ta') := fun h => q (decide_eq_true h)
              by_cases e1 : ka = ka'
              · by_cases e2 : na = na'
                · by_cases e3 : a = a'
                  · exact .inr (.inr (.inr ⟨e1, e2, e3, fun e4 => q2 ⟨e1, e2, e3, e4⟩⟩))
                  · exact .inr (.inr (.inl ⟨e1, e2, e3⟩))
                · exact .inr (.inl ⟨e1, e2⟩)
              · exact .inl e1
            clear q E
            rcases q' with e | ⟨rfl, e⟩ | ⟨rfl, rfl, e⟩ | ⟨rfl, rfl, rfl, e⟩
            · have n2 : (ka == ka') = false := by simpa using e
              go_wp2
              go_quiet (fail)
              go_wp2
              go_ret
              exact ⟨ret_bool HE.out, HBW.out.trans (Below.drewN _ _)⟩
            · have n2 : (na == na') = false := by simpa using e
              go_wp2
              go_quiet (fail)
              go_wp2
              go_ret
              exact ⟨ret_bool HE.out, HBW.out.trans (Below.drewN _ _)⟩
            · have n1 := toList_ne e
              have n2 := toList_beq e
              clear e
              go_wp2
              go_quiet (fail)
              go_wp2
              go_ret
              exact ⟨ret_bool HE.out, HBW.out.trans (Below.drewN _ _)⟩
            · have n2 : (ta == ta') = false := by simpa using e
              go_wp2
              go_quiet (fail)
              go_wp2
              go_ret
              exact ⟨ret_bool HE.out, HBW.out.trans (Below.drewN _ _)⟩
        · obtain rfl : k = x.fn := by omega
          have HE : Hid (true = r) := Lib.hid (by have := HK.out; rw [allF_end] at this; rw [← HR2'.out]; exact this)
          go_wp2
          go_ret
          exact ⟨ret_bool HE.out, HBW.out⟩
end Go.Proofs.YtjakdbahopbggaaGreatDoor
