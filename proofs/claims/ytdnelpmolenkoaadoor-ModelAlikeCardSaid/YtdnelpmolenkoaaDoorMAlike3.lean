/- callboardlaw14.ModelAlike returns true: the walk. Conditions: the tables as laid; lengths are lengths. -/
import Derived.Test.YtdnelpmolenkoaaDoorMAlikeA
import Derived.Test.YtdnelpmolenkoaaDoorMLarge
import Derived.Test.YtdnelpmolenkoaaDoorMProc
import Derived.Test.YtdnelpmolenkoaaDoorMawake
import Derived.Test.YtdnelpmolenkoaaDoorMShort
import Derived.Deep.DeepCutAuto
namespace Go.Proofs.YtdnelpmolenkoaaDoor
open Go.RowKit Go.Ow Go.Inv2

/-- the arguments are not large -/
def Pr.small (x : Pr) : Prop := x.name.size ≤ 200 ∧ x.nn ≤ 100 ∧ x.fn ≤ 200 ∧ x.vm ≤ 50 ∧ ∀ k, k < x.nn → (x.nf k).m ≤ 50 ∧ (x.nf k).n ≤ 50

theorem Pr.own_base {B B' : Nat} {w : World} {y : Pr} (h : y.own B w) (hB : B' ≤ B) : y.own B' w := ⟨ownC_base h.v hB, ownC_base h.n hB, ownC_base h.f hB, fun k hk => ⟨ownC_base (h.z k hk).1 hB, ownC_base (h.z k hk).2 hB⟩, h.sep⟩
/-- a node's Back has one text more -/
def BackP (y : Pr) (k : Nat) (W : World) : Prop := ∃ (o : Option Addr) (q : Nat), (y.setP k o q).at W ∧ (y.nf k).n + 1 ≤ q
/-- the box of c stands, in a world that keeps all old memory -/
def BoxW (w1 : World) (C : Nat) (W : World) : Prop := Below w1.heap.size w1 W ∧ w1.heap.size ≤ C ∧ ∃ a b c d : Value, W.heap[C]? = some (.cells #[a, b, c, d] 30 (0, 0))
set_option maxRecDepth 100000 in
set_option maxHeartbeats 32000000 in
theorem alike_run {A : Nat → Nat × Nat} (x y : Pr) (n : Int) (w : World) (hG : Gl A w) (hx : x.at w) (hy : y.at w) (fx : x.fit) (fy : y.fit) :
    Calls Tryd.prog 7 #[.agg x.cs, .agg y.cs, .int .i64 n] w fun r w' => r = .returned (.bool true) ∧ Below w.heap.size w w' := by
  obtain ⟨w1, hw1⟩ : ∃ W, (w.alloc (.cells x.cs 30)).alloc (.cells y.cs 30) = W := ⟨_, rfl⟩
  have hb1 : Below w.heap.size w w1 := by rw [← hw1]; exact ((Below.refl _ _).alloc (Nat.le_refl _) _).alloc (by simp) _
  have BX : Hid (∀ W : World, Below w1.heap.size w1 W → (W.cell? ⟨w.heap.size, 0, none⟩ = some (.string x.name) ∧ W.cell? ⟨w.heap.size, 1, none⟩ = some (.slice x.vo x.vm x.vc) ∧ W.cell? ⟨w.heap.size, 2, none⟩ = some (.slice x.no x.nn x.nc) ∧ W.cell? ⟨w.heap.size, 3, none⟩ = some (.slice x.fo x.fn x.fc)) ∧
      (W.cell? ⟨w.heap.size + 1, 0, none⟩ = some (.string y.name) ∧ W.cell? ⟨w.heap.size + 1, 1, none⟩ = some (.slice y.vo y.vm y.vc) ∧ W.cell? ⟨w.heap.size + 1, 2, none⟩ = some (.slice y.no y.nn y.nc) ∧ W.cell? ⟨w.heap.size + 1, 3, none⟩ = some (.slice y.fo y.fn y.fc))) := Lib.hid (fun W hb => by
    have hl : w.heap.size + 1 < w1.heap.size := by rw [← hw1]; simp
    simp only [fun o => hb.cell (p := ⟨w.heap.size, o, none⟩) (Nat.lt_of_succ_lt hl), fun o => hb.cell (p := ⟨w.heap.size + 1, o, none⟩) hl]
    rw [← hw1]
    simp)
  have HW := Lib.hid hw1
  have HB1 := Lib.hid hb1
  have HS : Hid (w.heap.size + 1 < w1.heap.size) := Lib.hid (by rw [← hw1]; simp)
  clear hw1 hb1
  have AW := Lib.hid (fun (W : World) (hb : Below w.heap.size w W) => mawake_true W (hG.below hb))
  have LX := Lib.hid (fun (W : World) (hb : Below w.heap.size w W) => large_any x W (hx.below hb) fx)
  have LY := Lib.hid (fun (W : World) (hb : Below w.heap.size w W) => large_any y W (hy.below hb) fy)
  have SXY := Lib.hid (fun (W : World) (hb : Below w.heap.size w W) => same_proc x y W (hx.below hb) (hy.below hb) fx fy)
  have SYX := Lib.hid (fun (W : World) (hb : Below w.heap.size w W) => by have := same_proc y x W (hy.below hb) (hx.below hb) fy fx; rw [sameP_comm y x] at this; exact this)
  have SZX := Lib.hid (fun (z : Pr) (W : World) (hz : z.at W) (fz : z.fit) (hb : Below w.heap.size w W) => same_proc z x W hz (hx.below hb) fz fx)
  have CX := Lib.hid (fun (W : World) (hb : Below w.heap.size w W) (hs : x.small) => copy_any x W (hx.below hb) fx hs.2.1 hs.2.2.1 hs.2.2.2.1 hs.2.2.2.2)
  have PX := Lib.hid (fun (W : World) (hb : Below w.heap.size w W) => proc_any x W (hG.below hb) (hx.below hb) fx)
  have PY : Hid (sameP x y = true → ∀ (W : World), Below w.heap.size w W → Calls Tryd.prog 16 #[.agg y.cs] W fun e W' => e = .returned (.int .i64 x.e) ∧ Below W.heap.size W W') := Lib.hid (fun hs W hb => by
    obtain ⟨z, h1, h2, h3, h4⟩ := same_told hs hy fx fy
    have := proc_any z W (hG.below hb) (h3.below hb) h4
    rw [h1, Pr.e_like h2] at this
    exact this)
  have FX := Lib.hid fx
  clear hG hx hy fx fy
  go_enter Tryd.func7, Tryd.ntmps7
  go_upto_region 1 with fail
  rw [HW.out]
  have HBR := Lib.hid (Below.refl w1.heap.size w1)
  obtain ⟨⟨q0, q1, q2, q3⟩, q4, q5, q6, q7⟩ := BX.out _ HBR.out
  go_wp2_with fail
  refine (LX.out _ HB1.out).mono ?_
  rintro e w2 ⟨bx, rfl, hsx, hb2⟩
  have HB2 := Lib.hid hb2
  obtain ⟨⟨s0, s1, s2, s3⟩, s4, s5, s6, s7⟩ := BX.out _ hb2
  clear hb2
  cases bx
  case true =>
    clear hsx
    go_wp2_with (go_at_call 10; refine (AW.out _ (below_step HB1.out HB2.out)).mono ?_; rintro e w3 ⟨rfl, hb3⟩)
    go_ret
    exact ⟨rfl, below_step (below_step HB1.out HB2.out) hb3⟩
  case false =>
    have HSX : Hid x.small := Lib.hid ⟨(hsx rfl).2.2.2.1, (hsx rfl).1, (hsx rfl).2.1, (hsx rfl).2.2.1, (hsx rfl).2.2.2.2⟩
    clear hsx
    go_wp2_with fail
    refine (LY.out _ (below_step HB1.out HB2.out)).mono ?_
    rintro e w3 ⟨bv, rfl, -, hb3⟩
    have HB3 := Lib.hid (below_step HB2.out hb3)
    clear hb3
    cases bv
    case true =>
      go_wp2_with (go_at_call 10; refine (AW.out _ (below_step HB1.out HB3.out)).mono ?_; rintro e w4 ⟨rfl, hb4⟩)
      go_ret
      exact ⟨rfl, below_step (below_step HB1.out HB3.out) hb4⟩
    case false =>
      go_upto_region 3 with (go_at_call 10; refine (AW.out _ (below_step HB1.out HB3.out)).mono ?_; rintro e w4 ⟨rfl, hb4⟩; have HB4 := Lib.hid (below_step HB3.out hb4); clear hb4)
      clear q0 q1 q2 q3 q4 q5 q6 q7 s0 s1 s2 s3 s4 s5 s6 s7
      go_cut [47] (fun s W => s = .bool false ∧ Below w1.heap.size w1 W)
      case first =>
        cases hs : sameP x y
        case false =>
          have HS2 := Lib.hid hs
          clear hs
          refine wp_region_asrt (by kernel_rfl) (fun W => Below w1.heap.size w1 W) (alNF w1.heap.size x y) alNDep alNNeed alNAnc alNKill 26 [some 22, some 23, some 24, some 25, some 26, some 27, some 28, some 29, some 30, some 31, some 32, some 33, some 34, some 35, some 36, some 37, some 38, some 39, some 40, some 41, some 42, some 43, some 44, some 45, some 46, some 47] rfl rfl (by kernel_rfl) alNDep_anc HB4.out.drew (fun j h => alNAnc_out h) (fun j hj => by match j, hj with | _ + 26, _ => trivial) (fun j h => alNDep_out h) ⟨?_, ?_, ?_, ?_, ?_, ?_, ?_, ?_, ?_, ?_, ?_, ?_, ?_, ?_, ?_, ?_, ?_, ?_, ?_, ?_, ?_, ?_, ?_, ?_, ?_, ?_, trivial⟩ ?_
          · refine Step.mk (oi := _) rfl [] (fun cs b h => by cases h) (by kernel_rfl) (fun vs W hI hA => ?_)
            simp only [List.map]
            obtain ⟨⟨q0, q1, q2, q3⟩, q4, q5, q6, q7⟩ := BX.out _ hI
            simp only [putR]
            refine SOp.val (v := .agg #[.string x.name, .slice x.vo x.vm x.vc, .slice x.no x.nn x.nc, .slice x.fo x.fn x.fc]) (w' := W) (by kernel_rfl) (by go_simp) ⟨hI, upd_self _ _ _, fun _ _ _ _ _ h => h⟩
          · refine Step.mk (oi := _) rfl [] (fun cs b h => by cases h) (by kernel_rfl) (fun vs W hI hA => ?_)
            simp only [List.map]
            obtain ⟨⟨q0, q1, q2, q3⟩, q4, q5, q6, q7⟩ := BX.out _ hI
            simp only [putR]
            refine SOp.val (v := .agg #[.string y.name, .slice y.vo y.vm y.vc, .slice y.no y.nn y.nc, .slice y.fo y.fn y.fc]) (w' := W) (by kernel_rfl) (by go_simp) ⟨hI, upd_self _ _ _, fun _ _ _ _ _ h => h⟩
          · refine Step.mk (oi := _) rfl [(22, 0), (23, 1)] (fun cs b h => by cases h) (by kernel_rfl) (fun vs W hI hA => ?_)
            simp only [List.map]
            have h0 : vs 0 = .agg #[.string x.name, .slice x.vo x.vm x.vc, .slice x.no x.nn x.nc, .slice x.fo x.fn x.fc] := hA 0 (by decide)
            have h1 : vs 1 = .agg #[.string y.name, .slice y.vo y.vm y.vc, .slice y.no y.nn y.nc, .slice y.fo y.fn y.fc] := hA 1 (by decide)
            rw [h0, h1]
            simp only [putR, Act.put, List.setIfInBounds_toArray, List.set_cons_zero, List.set_cons_succ]
            have SM := SXY.out W (below_step HB1.out hI)
            rw [HS2.out] at SM
            refine SOp.enter (f := 18) (args := #[.agg #[.string x.name, .slice x.vo x.vm x.vc, .slice x.no x.nn x.nc, .slice x.fo x.fn x.fc], .agg #[.string y.name, .slice y.vo y.vm y.vc, .slice y.no y.nn y.nc, .slice y.fo y.fn y.fc]]) (w' := W) (by kernel_rfl) (by go_simp) (SM.mono ?_)
            rintro e W' ⟨rfl, hb⟩
            exact ⟨_, rfl, below_step hI hb, upd_self _ _ _, fun _ _ _ _ _ h => alNF_mono hb h⟩
          · refine Step.mk (oi := _) rfl [] (fun cs b h => by cases h) (by kernel_rfl) (fun vs W hI hA => ?_)
            simp only [List.map]
            obtain ⟨⟨q0, q1, q2, q3⟩, q4, q5, q6, q7⟩ := BX.out _ hI
            simp only [putR]
            refine SOp.val (v := .agg #[.string y.name, .slice y.vo y.vm y.vc, .slice y.no y.nn y.nc, .slice y.fo y.fn y.fc]) (w' := W) (by kernel_rfl) (by go_simp) ⟨hI, upd_self _ _ _, fun _ _ _ _ _ h => h⟩
          · refine Step.mk (oi := _) rfl [] (fun cs b h => by cases h) (by kernel_rfl) (fun vs W hI hA => ?_)
            simp only [List.map]
            obtain ⟨⟨q0, q1, q2, q3⟩, q4, q5, q6, q7⟩ := BX.out _ hI
            simp only [putR]
            refine SOp.val (v := .agg #[.string x.name, .slice x.vo x.vm x.vc, .slice x.no x.nn x.nc, .slice x.fo x.fn x.fc]) (w' := W) (by kernel_rfl) (by go_simp) ⟨hI, upd_self _ _ _, fun _ _ _ _ _ h => h⟩
          · refine Step.mk (oi := _) rfl [(25, 3), (26, 4)] (fun cs b h => by cases h) (by kernel_rfl) (fun vs W hI hA => ?_)
            simp only [List.map]
            have h3 : vs 3 = .agg #[.string y.name, .slice y.vo y.vm y.vc, .slice y.no y.nn y.nc, .slice y.fo y.fn y.fc] := hA 3 (by decide)
            have h4 : vs 4 = .agg #[.string x.name, .slice x.vo x.vm x.vc, .slice x.no x.nn x.nc, .slice x.fo x.fn x.fc] := hA 4 (by decide)
            rw [h3, h4]
            simp only [putR, Act.put, List.setIfInBounds_toArray, List.set_cons_zero, List.set_cons_succ]
            have SM := SYX.out W (below_step HB1.out hI)
            rw [HS2.out] at SM
            refine SOp.enter (f := 18) (args := #[.agg #[.string y.name, .slice y.vo y.vm y.vc, .slice y.no y.nn y.nc, .slice y.fo y.fn y.fc], .agg #[.string x.name, .slice x.vo x.vm x.vc, .slice x.no x.nn x.nc, .slice x.fo x.fn x.fc]]) (w' := W) (by kernel_rfl) (by go_simp) (SM.mono ?_)
            rintro e W' ⟨rfl, hb⟩
            exact ⟨_, rfl, below_step hI hb, upd_self _ _ _, fun _ _ _ _ _ h => alNF_mono hb h⟩
          · refine Step.mk (oi := _) rfl [(24, 2), (27, 5)] (fun cs b h => by cases h) (by kernel_rfl) (fun vs W hI hA => ?_)
            simp only [List.map]
            have h2 : vs 2 = .bool false := hA 2 (by decide)
            have h5 : vs 5 = .bool false := hA 5 (by decide)
            rw [h2, h5]
            simp only [putR, Act.put, List.setIfInBounds_toArray, List.set_cons_zero, List.set_cons_succ]
            refine SOp.val (v := .bool false) (w' := W) (by kernel_rfl) (by go_simp) ⟨hI, upd_self _ _ _, fun _ _ _ _ _ h => h⟩
          · refine Step.mk (oi := _) rfl [(28, 6)] (fun cs b h => by cases h) (by kernel_rfl) (fun vs W hI hA => ?_)
            simp only [List.map]
            have h6 : vs 6 = .bool false := hA 6 (by decide)
            rw [h6]
            simp only [putR, Act.put, List.setIfInBounds_toArray, List.set_cons_zero, List.set_cons_succ]
            refine SOp.val (v := .bool false) (w' := W) (by kernel_rfl) (by go_simp) ⟨hI, upd_self _ _ _, fun _ _ _ _ _ h => h⟩
          · refine Step.mk (oi := _) rfl [(29, 7)] (fun cs b h => by cases h) (by kernel_rfl) (fun vs W hI hA => ?_)
            simp only [List.map]
            have h7 : vs 7 = .bool false := hA 7 (by decide)
            rw [h7]
            obtain ⟨⟨q0, q1, q2, q3⟩, q4, q5, q6, q7⟩ := BX.out _ hI
            simp only [putR, Act.put, List.setIfInBounds_toArray, List.set_cons_zero, List.set_cons_succ]
            refine SOp.val (v := .agg #[.string x.name, .slice x.vo x.vm x.vc, .slice x.no x.nn x.nc, .slice x.fo x.fn x.fc]) (w' := W) (by kernel_rfl) (by go_simp) ⟨hI, upd_self _ _ _, fun _ _ _ _ _ h => h⟩
          · refine Step.mk (oi := _) rfl [(30, 8), (29, 7)] (fun cs b h => by cases h) (by kernel_rfl) (fun vs W hI hA => ?_)
            simp only [List.map]
            have h8 : vs 8 = .agg #[.string x.name, .slice x.vo x.vm x.vc, .slice x.no x.nn x.nc, .slice x.fo x.fn x.fc] := hA 8 (by decide)
            have h7 : vs 7 = .bool false := hA 7 (by decide)
            rw [h8, h7]
            simp only [putR, Act.put, List.setIfInBounds_toArray, List.set_cons_zero, List.set_cons_succ]
            refine SOp.enter (f := 19) (args := #[.agg #[.string x.name, .slice x.vo x.vm x.vc, .slice x.no x.nn x.nc, .slice x.fo x.fn x.fc]]) (w' := W) (by kernel_rfl) (by go_simp) ((CX.out W (below_step HB1.out hI) HSX.out).mono ?_)
            rintro e W' ⟨z, rfl, z1, z2, z3, hb⟩
            exact ⟨_, rfl, below_step hI hb, ⟨z, upd_self _ _ _, z1, Pr.own_base z2 hI.size, z3⟩, fun _ _ _ _ _ h => alNF_mono hb h⟩
          · refine Step.mk (oi := _) rfl [(29, 7)] (fun cs b h => by cases h) (by kernel_rfl) (fun vs W hI hA => ?_)
            simp only [List.map]
            have h7 : vs 7 = .bool false := hA 7 (by decide)
            rw [h7]
            obtain ⟨⟨q0, q1, q2, q3⟩, q4, q5, q6, q7⟩ := BX.out _ hI
            simp only [putR, Act.put, List.setIfInBounds_toArray, List.set_cons_zero, List.set_cons_succ]
            refine SOp.val (v := .agg #[.string x.name, .slice x.vo x.vm x.vc, .slice x.no x.nn x.nc, .slice x.fo x.fn x.fc]) (w' := W) (by kernel_rfl) (by go_simp) ⟨hI, upd_self _ _ _, fun _ _ _ _ _ h => h⟩
          · refine Step.mk (oi := _) rfl [(31, 9), (32, 10), (29, 7)] (fun cs b h => by cases h) (by kernel_rfl) (fun vs W hI hA => ?_)
            simp only [List.map]
            have h10 : vs 10 = .agg #[.string x.name, .slice x.vo x.vm x.vc, .slice x.no x.nn x.nc, .slice x.fo x.fn x.fc] := hA 10 (by decide)
            have h7 : vs 7 = .bool false := hA 7 (by decide)
            rw [h10, h7]
            obtain ⟨z, hz, z1, z2, z3⟩ := hA 9 (by decide)
            have SM := SZX.out z W (Pr.own_at z2) (copy_fit FX.out z1 z2 z3) (below_step HB1.out hI)
            rw [sameP_like z1] at SM
            rw [hz]
            simp only [putR, Act.put, List.setIfInBounds_toArray, List.set_cons_zero, List.set_cons_succ]
            refine SOp.enter (f := 18) (args := #[.agg z.cs, .agg #[.string x.name, .slice x.vo x.vm x.vc, .slice x.no x.nn x.nc, .slice x.fo x.fn x.fc]]) (w' := W) (by kernel_rfl) (by go_simp) (SM.mono ?_)
            rintro e W' ⟨rfl, hb⟩
            exact ⟨_, rfl, below_step hI hb, upd_self _ _ _, fun _ _ _ _ _ h => alNF_mono hb h⟩
          · refine Step.mk (oi := _) rfl [(33, 11), (29, 7)] (fun cs b h => by cases h) (by kernel_rfl) (fun vs W hI hA => ?_)
            simp only [List.map]
            have h11 : vs 11 = .bool true := hA 11 (by decide)
            have h7 : vs 7 = .bool false := hA 7 (by decide)
            rw [h11, h7]
            simp only [putR, Act.put, List.setIfInBounds_toArray, List.set_cons_zero, List.set_cons_succ]
            refine SOp.val (v := .bool false) (w' := W) (by kernel_rfl) (by go_simp) ⟨hI, upd_self _ _ _, fun _ _ _ _ _ h => h⟩
          · refine Step.mk (oi := _) rfl [(29, 7), (34, 12)] (fun cs b h => by cases h) (by kernel_rfl) (fun vs W hI hA => ?_)
            simp only [List.map]
            have h7 : vs 7 = .bool false := hA 7 (by decide)
            have h12 : vs 12 = .bool false := hA 12 (by decide)
            rw [h7, h12]
            simp only [putR, Act.put, List.setIfInBounds_toArray, List.set_cons_zero, List.set_cons_succ]
            refine SOp.val (v := .bool false) (w' := W) (by kernel_rfl) (by go_simp) ⟨hI, upd_self _ _ _, fun _ _ _ _ _ h => h⟩
          · refine Step.mk (oi := _) rfl [(35, 13)] (fun cs b h => by cases h) (by kernel_rfl) (fun vs W hI hA => ?_)
            simp only [List.map]
            have h13 : vs 13 = .bool false := hA 13 (by decide)
            rw [h13]
            simp only [putR, Act.put, List.setIfInBounds_toArray, List.set_cons_zero, List.set_cons_succ]
            refine SOp.val (v := .bool false) (w' := W) (by kernel_rfl) (by go_simp) ⟨hI, upd_self _ _ _, fun _ _ _ _ _ h => h⟩
          · refine Step.mk (oi := _) rfl [(36, 14)] (fun cs b h => by cases h) (by kernel_rfl) (fun vs W hI hA => ?_)
            simp only [List.map]
            have h14 : vs 14 = .bool false := hA 14 (by decide)
            rw [h14]
            obtain ⟨⟨q0, q1, q2, q3⟩, q4, q5, q6, q7⟩ := BX.out _ hI
            simp only [putR, Act.put, List.setIfInBounds_toArray, List.set_cons_zero, List.set_cons_succ]
            refine SOp.val (v := .agg #[.string x.name, .slice x.vo x.vm x.vc, .slice x.no x.nn x.nc, .slice x.fo x.fn x.fc]) (w' := W) (by kernel_rfl) (by go_simp) ⟨hI, upd_self _ _ _, fun _ _ _ _ _ h => h⟩
          · refine Step.mk (oi := _) rfl [(36, 14)] (fun cs b h => by cases h) (by kernel_rfl) (fun vs W hI hA => ?_)
            simp only [List.map]
            have h14 : vs 14 = .bool false := hA 14 (by decide)
            rw [h14]
            obtain ⟨⟨q0, q1, q2, q3⟩, q4, q5, q6, q7⟩ := BX.out _ hI
            simp only [putR, Act.put, List.setIfInBounds_toArray, List.set_cons_zero, List.set_cons_succ]
            refine SOp.val (v := .agg #[.string y.name, .slice y.vo y.vm y.vc, .slice y.no y.nn y.nc, .slice y.fo y.fn y.fc]) (w' := W) (by kernel_rfl) (by go_simp) ⟨hI, upd_self _ _ _, fun _ _ _ _ _ h => h⟩
          · refine Step.mk (oi := _) rfl [(37, 15), (38, 16), (36, 14)] (fun cs b h => by cases h) (by kernel_rfl) (fun vs W hI hA => ?_)
            simp only [List.map]
            have h15 : vs 15 = .agg #[.string x.name, .slice x.vo x.vm x.vc, .slice x.no x.nn x.nc, .slice x.fo x.fn x.fc] := hA 15 (by decide)
            have h16 : vs 16 = .agg #[.string y.name, .slice y.vo y.vm y.vc, .slice y.no y.nn y.nc, .slice y.fo y.fn y.fc] := hA 16 (by decide)
            have h14 : vs 14 = .bool false := hA 14 (by decide)
            rw [h15, h16, h14]
            simp only [putR, Act.put, List.setIfInBounds_toArray, List.set_cons_zero, List.set_cons_succ]
            have SM := SXY.out W (below_step HB1.out hI)
            rw [HS2.out] at SM
            refine SOp.enter (f := 18) (args := #[.agg #[.string x.name, .slice x.vo x.vm x.vc, .slice x.no x.nn x.nc, .slice x.fo x.fn x.fc], .agg #[.string y.name, .slice y.vo y.vm y.vc, .slice y.no y.nn y.nc, .slice y.fo y.fn y.fc]]) (w' := W) (by kernel_rfl) (by go_simp) (SM.mono ?_)
            rintro e W' ⟨rfl, hb⟩
            exact ⟨_, rfl, below_step hI hb, upd_self _ _ _, fun _ _ _ _ _ h => alNF_mono hb h⟩
          · refine Step.mk (oi := _) rfl [(39, 17), (36, 14)] (fun cs b h => by cases h) (by kernel_rfl) (fun vs W hI hA => ?_)
            simp only [List.map]
            have h17 : vs 17 = .bool false := hA 17 (by decide)
            have h14 : vs 14 = .bool false := hA 14 (by decide)
            rw [h17, h14]
            simp only [putR, Act.put, List.setIfInBounds_toArray, List.set_cons_zero, List.set_cons_succ]
            refine SOp.val (v := .bool false) (w' := W) (by kernel_rfl) (by go_simp) ⟨hI, upd_self _ _ _, fun _ _ _ _ _ h => h⟩
          · refine Step.mk (oi := _) rfl [(40, 18)] (fun cs b h => by cases h) (by kernel_rfl) (fun vs W hI hA => ?_)
            simp only [List.map]
            have h18 : vs 18 = .bool false := hA 18 (by decide)
            rw [h18]
            simp only [putR, Act.put, List.setIfInBounds_toArray, List.set_cons_zero, List.set_cons_succ]
            exact SOp.skipped (by kernel_rfl) ⟨hI, upd_self _ _ _, fun _ _ _ _ _ h => h⟩
          · refine Step.mk (oi := _) rfl [(41, 19), (40, 18)] (fun cs b h => by cases h) (by kernel_rfl) (fun vs W hI hA => ?_)
            simp only [List.map]
            have h19 : vs 19 = undef := hA 19 (by decide)
            have h18 : vs 18 = .bool false := hA 18 (by decide)
            rw [h19, h18]
            simp only [putR, Act.put, List.setIfInBounds_toArray, List.set_cons_zero, List.set_cons_succ]
            exact SOp.skipped (by kernel_rfl) ⟨hI, upd_self _ _ _, fun _ _ _ _ _ h => h⟩
          · refine Step.mk (oi := _) rfl [(40, 18)] (fun cs b h => by cases h) (by kernel_rfl) (fun vs W hI hA => ?_)
            simp only [List.map]
            have h18 : vs 18 = .bool false := hA 18 (by decide)
            rw [h18]
            simp only [putR, Act.put, List.setIfInBounds_toArray, List.set_cons_zero, List.set_cons_succ]
            exact SOp.skipped (by kernel_rfl) ⟨hI, upd_self _ _ _, fun _ _ _ _ _ h => h⟩
          · refine Step.mk (oi := _) rfl [(43, 21), (40, 18)] (fun cs b h => by cases h) (by kernel_rfl) (fun vs W hI hA => ?_)
            simp only [List.map]
            have h21 : vs 21 = undef := hA 21 (by decide)
            have h18 : vs 18 = .bool false := hA 18 (by decide)
            rw [h21, h18]
            simp only [putR, Act.put, List.setIfInBounds_toArray, List.set_cons_zero, List.set_cons_succ]
            exact SOp.skipped (by kernel_rfl) ⟨hI, upd_self _ _ _, fun _ _ _ _ _ h => h⟩
          · refine Step.mk (oi := _) rfl [(42, 20), (44, 22), (40, 18)] (fun cs b h => by cases h) (by kernel_rfl) (fun vs W hI hA => ?_)
            simp only [List.map]
            have h20 : vs 20 = undef := hA 20 (by decide)
            have h22 : vs 22 = undef := hA 22 (by decide)
            have h18 : vs 18 = .bool false := hA 18 (by decide)
            rw [h20, h22, h18]
            simp only [putR, Act.put, List.setIfInBounds_toArray, List.set_cons_zero, List.set_cons_succ]
            exact SOp.skipped (by kernel_rfl) ⟨hI, upd_self _ _ _, fun _ _ _ _ _ h => h⟩
          · refine Step.mk (oi := _) rfl [(40, 18), (45, 23), (36, 14)] (fun cs b h => by cases h) (by kernel_rfl) (fun vs W hI hA => ?_)
            simp only [List.map]
            have h18 : vs 18 = .bool false := hA 18 (by decide)
            have h23 : vs 23 = undef := hA 23 (by decide)
            have h14 : vs 14 = .bool false := hA 14 (by decide)
            rw [h18, h23, h14]
            simp only [putR, Act.put, List.setIfInBounds_toArray, List.set_cons_zero, List.set_cons_succ]
            refine SOp.val (v := .bool false) (w' := W) (by kernel_rfl) (by go_simp) ⟨hI, upd_self _ _ _, fun _ _ _ _ _ h => h⟩
          · refine Step.mk (oi := _) rfl [(36, 14), (46, 24)] (fun cs b h => by cases h) (by kernel_rfl) (fun vs W hI hA => ?_)
            simp only [List.map]
            have h14 : vs 14 = .bool false := hA 14 (by decide)
            have h24 : vs 24 = .bool false := hA 24 (by decide)
            rw [h14, h24]
            simp only [putR, Act.put, List.setIfInBounds_toArray, List.set_cons_zero, List.set_cons_succ]
            refine SOp.val (v := .bool false) (w' := W) (by kernel_rfl) (by go_simp) ⟨hI, upd_self _ _ _, fun _ _ _ _ _ h => h⟩
          · intro vs W hI hφ
            have h25 : vs 25 = .bool false := hφ 25 (fun k _ => rfl)
            simp only [putAll, Act.put, List.setIfInBounds_toArray, List.set_cons_zero, List.set_cons_succ]
            rw [h25]
            go_wp2_with fail
            go_meet
            exact ⟨rfl, hI⟩
        case true =>
          have HS2 := Lib.hid hs
          clear hs
          refine wp_region_asrt (by kernel_rfl) (fun W => Below w1.heap.size w1 W) (alTF w1.heap.size x y) alTDep alTNeed alTAnc alTKill 26 [some 22, some 23, some 24, some 25, some 26, some 27, some 28, some 29, some 30, some 31, some 32, some 33, some 34, some 35, some 36, some 37, some 38, some 39, some 40, some 41, some 42, some 43, some 44, some 45, some 46, some 47] rfl rfl (by kernel_rfl) alTDep_anc HB4.out.drew (fun j h => alTAnc_out h) (fun j hj => by match j, hj with | _ + 26, _ => trivial) (fun j h => alTDep_out h) ⟨?_, ?_, ?_, ?_, ?_, ?_, ?_, ?_, ?_, ?_, ?_, ?_, ?_, ?_, ?_, ?_, ?_, ?_, ?_, ?_, ?_, ?_, ?_, ?_, ?_, ?_, trivial⟩ ?_
          · refine Step.mk (oi := _) rfl [] (fun cs b h => by cases h) (by kernel_rfl) (fun vs W hI hA => ?_)
            simp only [List.map]
            obtain ⟨⟨q0, q1, q2, q3⟩, q4, q5, q6, q7⟩ := BX.out _ hI
            simp only [putR]
            refine SOp.val (v := .agg #[.string x.name, .slice x.vo x.vm x.vc, .slice x.no x.nn x.nc, .slice x.fo x.fn x.fc]) (w' := W) (by kernel_rfl) (by go_simp) ⟨hI, upd_self _ _ _, fun _ _ _ _ _ h => h⟩
          · refine Step.mk (oi := _) rfl [] (fun cs b h => by cases h) (by kernel_rfl) (fun vs W hI hA => ?_)
            simp only [List.map]
            obtain ⟨⟨q0, q1, q2, q3⟩, q4, q5, q6, q7⟩ := BX.out _ hI
            simp only [putR]
            refine SOp.val (v := .agg #[.string y.name, .slice y.vo y.vm y.vc, .slice y.no y.nn y.nc, .slice y.fo y.fn y.fc]) (w' := W) (by kernel_rfl) (by go_simp) ⟨hI, upd_self _ _ _, fun _ _ _ _ _ h => h⟩
          · refine Step.mk (oi := _) rfl [(22, 0), (23, 1)] (fun cs b h => by cases h) (by kernel_rfl) (fun vs W hI hA => ?_)
            simp only [List.map]
            have h0 : vs 0 = .agg #[.string x.name, .slice x.vo x.vm x.vc, .slice x.no x.nn x.nc, .slice x.fo x.fn x.fc] := hA 0 (by decide)
            have h1 : vs 1 = .agg #[.string y.name, .slice y.vo y.vm y.vc, .slice y.no y.nn y.nc, .slice y.fo y.fn y.fc] := hA 1 (by decide)
            rw [h0, h1]
            simp only [putR, Act.put, List.setIfInBounds_toArray, List.set_cons_zero, List.set_cons_succ]
            have SM := SXY.out W (below_step HB1.out hI)
            rw [HS2.out] at SM
            refine SOp.enter (f := 18) (args := #[.agg #[.string x.name, .slice x.vo x.vm x.vc, .slice x.no x.nn x.nc, .slice x.fo x.fn x.fc], .agg #[.string y.name, .slice y.vo y.vm y.vc, .slice y.no y.nn y.nc, .slice y.fo y.fn y.fc]]) (w' := W) (by kernel_rfl) (by go_simp) (SM.mono ?_)
            rintro e W' ⟨rfl, hb⟩
            exact ⟨_, rfl, below_step hI hb, upd_self _ _ _, fun _ _ _ _ _ h => alTF_mono hb h⟩
          · refine Step.mk (oi := _) rfl [] (fun cs b h => by cases h) (by kernel_rfl) (fun vs W hI hA => ?_)
            simp only [List.map]
            obtain ⟨⟨q0, q1, q2, q3⟩, q4, q5, q6, q7⟩ := BX.out _ hI
            simp only [putR]
            refine SOp.val (v := .agg #[.string y.name, .slice y.vo y.vm y.vc, .slice y.no y.nn y.nc, .slice y.fo y.fn y.fc]) (w' := W) (by kernel_rfl) (by go_simp) ⟨hI, upd_self _ _ _, fun _ _ _ _ _ h => h⟩
          · refine Step.mk (oi := _) rfl [] (fun cs b h => by cases h) (by kernel_rfl) (fun vs W hI hA => ?_)
            simp only [List.map]
            obtain ⟨⟨q0, q1, q2, q3⟩, q4, q5, q6, q7⟩ := BX.out _ hI
            simp only [putR]
            refine SOp.val (v := .agg #[.string x.name, .slice x.vo x.vm x.vc, .slice x.no x.nn x.nc, .slice x.fo x.fn x.fc]) (w' := W) (by kernel_rfl) (by go_simp) ⟨hI, upd_self _ _ _, fun _ _ _ _ _ h => h⟩
          · refine Step.mk (oi := _) rfl [(25, 3), (26, 4)] (fun cs b h => by cases h) (by kernel_rfl) (fun vs W hI hA => ?_)
            simp only [List.map]
            have h3 : vs 3 = .agg #[.string y.name, .slice y.vo y.vm y.vc, .slice y.no y.nn y.nc, .slice y.fo y.fn y.fc] := hA 3 (by decide)
            have h4 : vs 4 = .agg #[.string x.name, .slice x.vo x.vm x.vc, .slice x.no x.nn x.nc, .slice x.fo x.fn x.fc] := hA 4 (by decide)
            rw [h3, h4]
            simp only [putR, Act.put, List.setIfInBounds_toArray, List.set_cons_zero, List.set_cons_succ]
            have SM := SYX.out W (below_step HB1.out hI)
            rw [HS2.out] at SM
            refine SOp.enter (f := 18) (args := #[.agg #[.string y.name, .slice y.vo y.vm y.vc, .slice y.no y.nn y.nc, .slice y.fo y.fn y.fc], .agg #[.string x.name, .slice x.vo x.vm x.vc, .slice x.no x.nn x.nc, .slice x.fo x.fn x.fc]]) (w' := W) (by kernel_rfl) (by go_simp) (SM.mono ?_)
            rintro e W' ⟨rfl, hb⟩
            exact ⟨_, rfl, below_step hI hb, upd_self _ _ _, fun _ _ _ _ _ h => alTF_mono hb h⟩
          · refine Step.mk (oi := _) rfl [(24, 2), (27, 5)] (fun cs b h => by cases h) (by kernel_rfl) (fun vs W hI hA => ?_)
            simp only [List.map]
            have h2 : vs 2 = .bool true := hA 2 (by decide)
            have h5 : vs 5 = .bool true := hA 5 (by decide)
            rw [h2, h5]
            simp only [putR, Act.put, List.setIfInBounds_toArray, List.set_cons_zero, List.set_cons_succ]
            refine SOp.val (v := .bool false) (w' := W) (by kernel_rfl) (by go_simp) ⟨hI, upd_self _ _ _, fun _ _ _ _ _ h => h⟩
          · refine Step.mk (oi := _) rfl [(28, 6)] (fun cs b h => by cases h) (by kernel_rfl) (fun vs W hI hA => ?_)
            simp only [List.map]
            have h6 : vs 6 = .bool false := hA 6 (by decide)
            rw [h6]
            simp only [putR, Act.put, List.setIfInBounds_toArray, List.set_cons_zero, List.set_cons_succ]
            refine SOp.val (v := .bool false) (w' := W) (by kernel_rfl) (by go_simp) ⟨hI, upd_self _ _ _, fun _ _ _ _ _ h => h⟩
          · refine Step.mk (oi := _) rfl [(29, 7)] (fun cs b h => by cases h) (by kernel_rfl) (fun vs W hI hA => ?_)
            simp only [List.map]
            have h7 : vs 7 = .bool false := hA 7 (by decide)
            rw [h7]
            obtain ⟨⟨q0, q1, q2, q3⟩, q4, q5, q6, q7⟩ := BX.out _ hI
            simp only [putR, Act.put, List.setIfInBounds_toArray, List.set_cons_zero, List.set_cons_succ]
            refine SOp.val (v := .agg #[.string x.name, .slice x.vo x.vm x.vc, .slice x.no x.nn x.nc, .slice x.fo x.fn x.fc]) (w' := W) (by kernel_rfl) (by go_simp) ⟨hI, upd_self _ _ _, fun _ _ _ _ _ h => h⟩
          · refine Step.mk (oi := _) rfl [(30, 8), (29, 7)] (fun cs b h => by cases h) (by kernel_rfl) (fun vs W hI hA => ?_)
            simp only [List.map]
            have h8 : vs 8 = .agg #[.string x.name, .slice x.vo x.vm x.vc, .slice x.no x.nn x.nc, .slice x.fo x.fn x.fc] := hA 8 (by decide)
            have h7 : vs 7 = .bool false := hA 7 (by decide)
            rw [h8, h7]
            simp only [putR, Act.put, List.setIfInBounds_toArray, List.set_cons_zero, List.set_cons_succ]
            refine SOp.enter (f := 19) (args := #[.agg #[.string x.name, .slice x.vo x.vm x.vc, .slice x.no x.nn x.nc, .slice x.fo x.fn x.fc]]) (w' := W) (by kernel_rfl) (by go_simp) ((CX.out W (below_step HB1.out hI) HSX.out).mono ?_)
            rintro e W' ⟨z, rfl, z1, z2, z3, hb⟩
            exact ⟨_, rfl, below_step hI hb, ⟨z, upd_self _ _ _, z1, Pr.own_base z2 hI.size, z3⟩, fun _ _ _ _ _ h => alTF_mono hb h⟩
          · refine Step.mk (oi := _) rfl [(29, 7)] (fun cs b h => by cases h) (by kernel_rfl) (fun vs W hI hA => ?_)
            simp only [List.map]
            have h7 : vs 7 = .bool false := hA 7 (by decide)
            rw [h7]
            obtain ⟨⟨q0, q1, q2, q3⟩, q4, q5, q6, q7⟩ := BX.out _ hI
            simp only [putR, Act.put, List.setIfInBounds_toArray, List.set_cons_zero, List.set_cons_succ]
            refine SOp.val (v := .agg #[.string x.name, .slice x.vo x.vm x.vc, .slice x.no x.nn x.nc, .slice x.fo x.fn x.fc]) (w' := W) (by kernel_rfl) (by go_simp) ⟨hI, upd_self _ _ _, fun _ _ _ _ _ h => h⟩
          · refine Step.mk (oi := _) rfl [(31, 9), (32, 10), (29, 7)] (fun cs b h => by cases h) (by kernel_rfl) (fun vs W hI hA => ?_)
            simp only [List.map]
            have h10 : vs 10 = .agg #[.string x.name, .slice x.vo x.vm x.vc, .slice x.no x.nn x.nc, .slice x.fo x.fn x.fc] := hA 10 (by decide)
            have h7 : vs 7 = .bool false := hA 7 (by decide)
            rw [h10, h7]
            obtain ⟨z, hz, z1, z2, z3⟩ := hA 9 (by decide)
            have SM := SZX.out z W (Pr.own_at z2) (copy_fit FX.out z1 z2 z3) (below_step HB1.out hI)
            rw [sameP_like z1] at SM
            rw [hz]
            simp only [putR, Act.put, List.setIfInBounds_toArray, List.set_cons_zero, List.set_cons_succ]
            refine SOp.enter (f := 18) (args := #[.agg z.cs, .agg #[.string x.name, .slice x.vo x.vm x.vc, .slice x.no x.nn x.nc, .slice x.fo x.fn x.fc]]) (w' := W) (by kernel_rfl) (by go_simp) (SM.mono ?_)
            rintro e W' ⟨rfl, hb⟩
            exact ⟨_, rfl, below_step hI hb, upd_self _ _ _, fun _ _ _ _ _ h => alTF_mono hb h⟩
          · refine Step.mk (oi := _) rfl [(33, 11), (29, 7)] (fun cs b h => by cases h) (by kernel_rfl) (fun vs W hI hA => ?_)
            simp only [List.map]
            have h11 : vs 11 = .bool true := hA 11 (by decide)
            have h7 : vs 7 = .bool false := hA 7 (by decide)
            rw [h11, h7]
            simp only [putR, Act.put, List.setIfInBounds_toArray, List.set_cons_zero, List.set_cons_succ]
            refine SOp.val (v := .bool false) (w' := W) (by kernel_rfl) (by go_simp) ⟨hI, upd_self _ _ _, fun _ _ _ _ _ h => h⟩
          · refine Step.mk (oi := _) rfl [(29, 7), (34, 12)] (fun cs b h => by cases h) (by kernel_rfl) (fun vs W hI hA => ?_)
            simp only [List.map]
            have h7 : vs 7 = .bool false := hA 7 (by decide)
            have h12 : vs 12 = .bool false := hA 12 (by decide)
            rw [h7, h12]
            simp only [putR, Act.put, List.setIfInBounds_toArray, List.set_cons_zero, List.set_cons_succ]
            refine SOp.val (v := .bool false) (w' := W) (by kernel_rfl) (by go_simp) ⟨hI, upd_self _ _ _, fun _ _ _ _ _ h => h⟩
          · refine Step.mk (oi := _) rfl [(35, 13)] (fun cs b h => by cases h) (by kernel_rfl) (fun vs W hI hA => ?_)
            simp only [List.map]
            have h13 : vs 13 = .bool false := hA 13 (by decide)
            rw [h13]
            simp only [putR, Act.put, List.setIfInBounds_toArray, List.set_cons_zero, List.set_cons_succ]
            refine SOp.val (v := .bool false) (w' := W) (by kernel_rfl) (by go_simp) ⟨hI, upd_self _ _ _, fun _ _ _ _ _ h => h⟩
          · refine Step.mk (oi := _) rfl [(36, 14)] (fun cs b h => by cases h) (by kernel_rfl) (fun vs W hI hA => ?_)
            simp only [List.map]
            have h14 : vs 14 = .bool false := hA 14 (by decide)
            rw [h14]
            obtain ⟨⟨q0, q1, q2, q3⟩, q4, q5, q6, q7⟩ := BX.out _ hI
            simp only [putR, Act.put, List.setIfInBounds_toArray, List.set_cons_zero, List.set_cons_succ]
            refine SOp.val (v := .agg #[.string x.name, .slice x.vo x.vm x.vc, .slice x.no x.nn x.nc, .slice x.fo x.fn x.fc]) (w' := W) (by kernel_rfl) (by go_simp) ⟨hI, upd_self _ _ _, fun _ _ _ _ _ h => h⟩
          · refine Step.mk (oi := _) rfl [(36, 14)] (fun cs b h => by cases h) (by kernel_rfl) (fun vs W hI hA => ?_)
            simp only [List.map]
            have h14 : vs 14 = .bool false := hA 14 (by decide)
            rw [h14]
            obtain ⟨⟨q0, q1, q2, q3⟩, q4, q5, q6, q7⟩ := BX.out _ hI
            simp only [putR, Act.put, List.setIfInBounds_toArray, List.set_cons_zero, List.set_cons_succ]
            refine SOp.val (v := .agg #[.string y.name, .slice y.vo y.vm y.vc, .slice y.no y.nn y.nc, .slice y.fo y.fn y.fc]) (w' := W) (by kernel_rfl) (by go_simp) ⟨hI, upd_self _ _ _, fun _ _ _ _ _ h => h⟩
          · refine Step.mk (oi := _) rfl [(37, 15), (38, 16), (36, 14)] (fun cs b h => by cases h) (by kernel_rfl) (fun vs W hI hA => ?_)
            simp only [List.map]
            have h15 : vs 15 = .agg #[.string x.name, .slice x.vo x.vm x.vc, .slice x.no x.nn x.nc, .slice x.fo x.fn x.fc] := hA 15 (by decide)
            have h16 : vs 16 = .agg #[.string y.name, .slice y.vo y.vm y.vc, .slice y.no y.nn y.nc, .slice y.fo y.fn y.fc] := hA 16 (by decide)
            have h14 : vs 14 = .bool false := hA 14 (by decide)
            rw [h15, h16, h14]
            simp only [putR, Act.put, List.setIfInBounds_toArray, List.set_cons_zero, List.set_cons_succ]
            have SM := SXY.out W (below_step HB1.out hI)
            rw [HS2.out] at SM
            refine SOp.enter (f := 18) (args := #[.agg #[.string x.name, .slice x.vo x.vm x.vc, .slice x.no x.nn x.nc, .slice x.fo x.fn x.fc], .agg #[.string y.name, .slice y.vo y.vm y.vc, .slice y.no y.nn y.nc, .slice y.fo y.fn y.fc]]) (w' := W) (by kernel_rfl) (by go_simp) (SM.mono ?_)
            rintro e W' ⟨rfl, hb⟩
            exact ⟨_, rfl, below_step hI hb, upd_self _ _ _, fun _ _ _ _ _ h => alTF_mono hb h⟩
          · refine Step.mk (oi := _) rfl [(39, 17), (36, 14)] (fun cs b h => by cases h) (by kernel_rfl) (fun vs W hI hA => ?_)
            simp only [List.map]
            have h17 : vs 17 = .bool true := hA 17 (by decide)
            have h14 : vs 14 = .bool false := hA 14 (by decide)
            rw [h17, h14]
            simp only [putR, Act.put, List.setIfInBounds_toArray, List.set_cons_zero, List.set_cons_succ]
            refine SOp.val (v := .bool true) (w' := W) (by kernel_rfl) (by go_simp) ⟨hI, upd_self _ _ _, fun _ _ _ _ _ h => h⟩
          · refine Step.mk (oi := _) rfl [(40, 18)] (fun cs b h => by cases h) (by kernel_rfl) (fun vs W hI hA => ?_)
            simp only [List.map]
            have h18 : vs 18 = .bool true := hA 18 (by decide)
            rw [h18]
            obtain ⟨⟨q0, q1, q2, q3⟩, q4, q5, q6, q7⟩ := BX.out _ hI
            simp only [putR, Act.put, List.setIfInBounds_toArray, List.set_cons_zero, List.set_cons_succ]
            refine SOp.val (v := .agg #[.string x.name, .slice x.vo x.vm x.vc, .slice x.no x.nn x.nc, .slice x.fo x.fn x.fc]) (w' := W) (by kernel_rfl) (by go_simp) ⟨hI, upd_self _ _ _, fun _ _ _ _ _ h => h⟩
          · refine Step.mk (oi := _) rfl [(41, 19), (40, 18)] (fun cs b h => by cases h) (by kernel_rfl) (fun vs W hI hA => ?_)
            simp only [List.map]
            have h19 : vs 19 = .agg #[.string x.name, .slice x.vo x.vm x.vc, .slice x.no x.nn x.nc, .slice x.fo x.fn x.fc] := hA 19 (by decide)
            have h18 : vs 18 = .bool true := hA 18 (by decide)
            rw [h19, h18]
            simp only [putR, Act.put, List.setIfInBounds_toArray, List.set_cons_zero, List.set_cons_succ]
            refine SOp.enter (f := 16) (args := #[.agg #[.string x.name, .slice x.vo x.vm x.vc, .slice x.no x.nn x.nc, .slice x.fo x.fn x.fc]]) (w' := W) (by kernel_rfl) (by go_simp) ((PX.out W (below_step HB1.out hI)).mono ?_)
            rintro e W' ⟨rfl, hb⟩
            exact ⟨_, rfl, below_step hI hb, upd_self _ _ _, fun _ _ _ _ _ h => alTF_mono hb h⟩
          · refine Step.mk (oi := _) rfl [(40, 18)] (fun cs b h => by cases h) (by kernel_rfl) (fun vs W hI hA => ?_)
            simp only [List.map]
            have h18 : vs 18 = .bool true := hA 18 (by decide)
            rw [h18]
            obtain ⟨⟨q0, q1, q2, q3⟩, q4, q5, q6, q7⟩ := BX.out _ hI
            simp only [putR, Act.put, List.setIfInBounds_toArray, List.set_cons_zero, List.set_cons_succ]
            refine SOp.val (v := .agg #[.string y.name, .slice y.vo y.vm y.vc, .slice y.no y.nn y.nc, .slice y.fo y.fn y.fc]) (w' := W) (by kernel_rfl) (by go_simp) ⟨hI, upd_self _ _ _, fun _ _ _ _ _ h => h⟩
          · refine Step.mk (oi := _) rfl [(43, 21), (40, 18)] (fun cs b h => by cases h) (by kernel_rfl) (fun vs W hI hA => ?_)
            simp only [List.map]
            have h21 : vs 21 = .agg #[.string y.name, .slice y.vo y.vm y.vc, .slice y.no y.nn y.nc, .slice y.fo y.fn y.fc] := hA 21 (by decide)
            have h18 : vs 18 = .bool true := hA 18 (by decide)
            rw [h21, h18]
            simp only [putR, Act.put, List.setIfInBounds_toArray, List.set_cons_zero, List.set_cons_succ]
            refine SOp.enter (f := 16) (args := #[.agg #[.string y.name, .slice y.vo y.vm y.vc, .slice y.no y.nn y.nc, .slice y.fo y.fn y.fc]]) (w' := W) (by kernel_rfl) (by go_simp) ((PY.out HS2.out W (below_step HB1.out hI)).mono ?_)
            rintro e W' ⟨rfl, hb⟩
            exact ⟨_, rfl, below_step hI hb, upd_self _ _ _, fun _ _ _ _ _ h => alTF_mono hb h⟩
          · refine Step.mk (oi := _) rfl [(42, 20), (44, 22), (40, 18)] (fun cs b h => by cases h) (by kernel_rfl) (fun vs W hI hA => ?_)
            simp only [List.map]
            have h20 : vs 20 = .int .i64 x.e := hA 20 (by decide)
            have h22 : vs 22 = .int .i64 x.e := hA 22 (by decide)
            have h18 : vs 18 = .bool true := hA 18 (by decide)
            rw [h20, h22, h18]
            simp only [putR, Act.put, List.setIfInBounds_toArray, List.set_cons_zero, List.set_cons_succ]
            refine SOp.val (v := .bool false) (w' := W) (by kernel_rfl) (by go_simp) ⟨hI, upd_self _ _ _, fun _ _ _ _ _ h => h⟩
          · refine Step.mk (oi := _) rfl [(40, 18), (45, 23), (36, 14)] (fun cs b h => by cases h) (by kernel_rfl) (fun vs W hI hA => ?_)
            simp only [List.map]
            have h18 : vs 18 = .bool true := hA 18 (by decide)
            have h23 : vs 23 = .bool false := hA 23 (by decide)
            have h14 : vs 14 = .bool false := hA 14 (by decide)
            rw [h18, h23, h14]
            simp only [putR, Act.put, List.setIfInBounds_toArray, List.set_cons_zero, List.set_cons_succ]
            refine SOp.val (v := .bool false) (w' := W) (by kernel_rfl) (by go_simp) ⟨hI, upd_self _ _ _, fun _ _ _ _ _ h => h⟩
          · refine Step.mk (oi := _) rfl [(36, 14), (46, 24)] (fun cs b h => by cases h) (by kernel_rfl) (fun vs W hI hA => ?_)
            simp only [List.map]
            have h14 : vs 14 = .bool false := hA 14 (by decide)
            have h24 : vs 24 = .bool false := hA 24 (by decide)
            rw [h14, h24]
            simp only [putR, Act.put, List.setIfInBounds_toArray, List.set_cons_zero, List.set_cons_succ]
            refine SOp.val (v := .bool false) (w' := W) (by kernel_rfl) (by go_simp) ⟨hI, upd_self _ _ _, fun _ _ _ _ _ h => h⟩
          · intro vs W hI hφ
            have h25 : vs 25 = .bool false := hφ 25 (fun k _ => rfl)
            simp only [putAll, Act.put, List.setIfInBounds_toArray, List.set_cons_zero, List.set_cons_succ]
            rw [h25]
            go_wp2_with fail
            go_meet
            exact ⟨rfl, hI⟩
      case rest =>
        obtain ⟨rfl, hB5⟩ := hcut
        have HB5 := Lib.hid hB5
        clear hB5
        obtain ⟨⟨q0, q1, q2, q3⟩, q4, q5, q6, q7⟩ := BX.out _ HB5.out
        go_wp2_with fail
        refine (CX.out _ (below_step HB1.out HB5.out) HSX.out).mono ?_
        rintro e w6 ⟨y1, rfl, l1, o1, r1, hb6⟩
        have HB6 := Lib.hid (below_step HB5.out hb6)
        obtain ⟨⟨s0, s1, s2, s3⟩, s4, s5, s6, s7⟩ := BX.out _ HB6.out
        have L1 := Lib.hid l1
        have O1 := Lib.hid o1
        have R1 := Lib.hid r1
        clear l1 o1 r1 hb6 q0 q1 q2 q3 q4 q5 q6 q7
        go_upto_region 6 with fail
        obtain ⟨W6, hW6⟩ : ∃ W, w6.alloc (.cells #[.string y1.name, .slice y1.vo y1.vm y1.vc, .slice y1.no y1.nn y1.nc, .slice y1.fo y1.fn y1.fc] 30) = W := ⟨_, rfl⟩
        rw [hW6]
        have hal : Below w6.heap.size w6 W6 := by rw [← hW6]; exact (Below.refl _ _).alloc (Nat.le_refl _) _
        have HC6 : Hid (Below w1.heap.size w1 W6) := Lib.hid (below_step HB6.out hal)
        have HH6 : Hid (W6.heap[w6.heap.size]? = some (.cells #[.string y1.name, .slice y1.vo y1.vm y1.vc, .slice y1.no y1.nn y1.nc, .slice y1.fo y1.fn y1.fc] 30 (0, 0))) := Lib.hid (by rw [← hW6]; exact heap_alloc_new _ _)
        have HCb : Hid (w1.heap.size ≤ w6.heap.size) := Lib.hid HB6.out.size
        have O6 := Lib.hid (Pr.own_mono (Pr.own_base O1.out HB5.out.size) hal)
        clear hal hW6 O1 s0 s1 s2 s3 s4 s5 s6 s7
        obtain ⟨⟨s0, s1, s2, s3⟩, s4, s5, s6, s7⟩ := BX.out _ HC6.out
        have k0 := cell_in HH6.out 0
        have k1 := cell_in HH6.out 1
        have k2 := cell_in HH6.out 2
        have k3 := cell_in HH6.out 3
        have kf := froz_in HH6.out
        simp at k0 k1 k2 k3
        have ln := HSX.out.1
        go_upto_region 7 with fail
        obtain ⟨W7, hW7⟩ : ∃ W, W6.setCell ⟨w6.heap.size, 0, none⟩ (.string (x.name ++ ⟨#[120]⟩)) = W := ⟨_, rfl⟩
        rw [hW7]
        have hbt : But w6.heap.size W6 W7 := by rw [← hW7]; exact But.setCell _ _ _ _
        have HC7 : Hid (Below w1.heap.size w1 W7) := Lib.hid (by rw [← hW7]; exact HC6.out.setCell HCb.out _)
        have HH7 : Hid (W7.heap[w6.heap.size]? = some (.cells #[.string (x.name ++ ⟨#[120]⟩), .slice y1.vo y1.vm y1.vc, .slice y1.no y1.nn y1.nc, .slice y1.fo y1.fn y1.fc] 30 (0, 0))) := Lib.hid (by rw [← hW7]; exact But.heap HH6.out)
        have SM0 := SZX.out { y1 with name := x.name ++ ⟨#[120]⟩ } W7 (Pr.own_at (Pr.own_name _ (Pr.own_box O6.out HH6.out hbt))) (by
          obtain ⟨_, g⟩ := copy_fit FX.out L1.out O6.out R1.out
          exact ⟨by show (x.name ++ ⟨#[120]⟩).size ≤ _; rw [ByteArray.size_append]; show x.name.size + 1 ≤ _; omega, g⟩) (below_step HB1.out HC7.out)
        rw [sameP_name (x := { y1 with name := x.name ++ ⟨#[120]⟩ }) (y := x) (fun e => by
          have h1 : (x.name ++ ⟨#[120]⟩).size = x.name.size := congrArg ByteArray.size e
          rw [ByteArray.size_append] at h1
          have h2 : (⟨#[120]⟩ : ByteArray).size = 1 := rfl
          omega)] at SM0
        have SM := Lib.hid SM0
        clear SM0
        clear hbt hW7 O6 k0 k1 k2 k3 kf HH6 HC6 s0 s1 s2 s3 s4 s5 s6 s7 ln
        obtain ⟨⟨s0, s1, s2, s3⟩, s4, s5, s6, s7⟩ := BX.out _ HC7.out
        have k0 := cell_in HH7.out 0
        have k1 := cell_in HH7.out 1
        have k2 := cell_in HH7.out 2
        have k3 := cell_in HH7.out 3
        simp at k0 k1 k2 k3
        go_upto_region 9 with (go_at_call 18; refine SM.out.mono ?_; rintro e w8 ⟨rfl, hb8⟩; have HC8 := Lib.hid (below_step HC7.out hb8); have HH8 : Hid (w8.heap[w6.heap.size]? = some (.cells #[.string (x.name ++ ⟨#[120]⟩), .slice y1.vo y1.vm y1.vc, .slice y1.no y1.nn y1.nc, .slice y1.fo y1.fn y1.fc] 30 (0, 0))) := Lib.hid (by rw [hb8.block _ (Array.getElem?_eq_some_iff.1 HH7.out).1]; exact HH7.out); clear hb8)
        clear k0 k1 k2 k3 SM HH7 L1 R1 s0 s1 s2 s3 s4 s5 s6 s7
        obtain ⟨⟨s0, s1, s2, s3⟩, s4, s5, s6, s7⟩ := BX.out _ HC8.out
        go_upto_if 60 with fail
        have HKB : Hid (BoxW w1 w6.heap.size w8) := Lib.hid ⟨HC8.out, HCb.out, _, _, _, _, HH8.out⟩
        clear HH8 HC8 s0 s1 s2 s3 s4 s5 s6 s7 HC7
        obtain ⟨Cb, hCb⟩ : ∃ b, w6.heap.size = b := ⟨_, rfl⟩
        rw [hCb] at HKB HCb ⊢
        clear hCb HB6 HB5 HB4 HB3 HB2
        go_cut [6, 8, 9] (fun _ _ _ W => BoxW w1 Cb W)
        case first  =>
          by_cases hn0 : x.nn = 0
          · have hn1 : ¬ (0 : Int) < (x.nn : Int) := by omega
            go_wp2_with fail
            go_meet
            exact HKB.out
          · have hn1 : (0 : Int) < (x.nn : Int) := by omega
            have hn2 : 0 < x.nn := by omega
            have hn4 : ((x.nn : Int) == 0) = false := b8n hn0
            have hn5 : x.nn ≤ 100 := HSX.out.2.1
            obtain ⟨kn, j1, j2, j3⟩ := less_at n x.nn hn2
            obtain ⟨hb8, _, ca, cb, cc, cd, hh8⟩ := HKB.out
            have HC8 := Lib.hid hb8
            have HH8 := Lib.hid hh8
            clear hb8 hh8 hn0
            obtain ⟨⟨s0, s1, s2, s3⟩, s4, s5, s6, s7⟩ := BX.out _ HC8.out
            go_wp2_with fail
            refine (CX.out _ (below_step HB1.out HC8.out) HSX.out).mono ?_
            rintro e w9 ⟨y2, rfl, l2, o2, r2, hb9⟩
            have HC9 := Lib.hid (below_step HC8.out hb9)
            have HH9 : Hid (w9.heap[Cb]? = some (.cells #[ca, cb, cc, cd] 30 (0, 0))) := Lib.hid (by rw [hb9.block _ (Array.getElem?_eq_some_iff.1 HH8.out).1]; exact HH8.out)
            have O2 := Lib.hid (Pr.own_base o2 HC8.out.size)
            have L2 := Lib.hid l2
            have R2 := Lib.hid r2
            have F2 := Lib.hid (copy_fit FX.out l2 o2 r2)
            clear hb9 o2 l2 r2 s0 s1 s2 s3 s4 s5 s6 s7 HH8
            obtain ⟨⟨s0, s1, s2, s3⟩, s4, s5, s6, s7⟩ := BX.out _ HC9.out
            have k0 := cell_in HH9.out 0
            have k1 := cell_in HH9.out 1
            have k2 := cell_in HH9.out 2
            have k3 := cell_in HH9.out 3
            have kf := froz_in HH9.out
            simp at k0 k1 k2 k3
            go_upto_region 11 with fail
            obtain ⟨W10, hW10⟩ : ∃ W, (((w9.setCell ⟨Cb, 0, none⟩ (.string y2.name)).setCell ⟨Cb, 1, none⟩ (.slice y2.vo y2.vm y2.vc)).setCell ⟨Cb, 2, none⟩ (.slice y2.no y2.nn y2.nc)).setCell ⟨Cb, 3, none⟩ (.slice y2.fo y2.fn y2.fc) = W := ⟨_, rfl⟩
            rw [hW10]
            have hbt : But Cb w9 W10 := by rw [← hW10]; exact (((But.setCell _ _ _ _).trans (But.setCell _ _ _ _)).trans (But.setCell _ _ _ _)).trans (But.setCell _ _ _ _)
            have HC10 : Hid (Below w1.heap.size w1 W10) := Lib.hid (HC9.out.trans (hbt.below HCb.out (Nat.le_of_lt (Array.getElem?_eq_some_iff.1 HH9.out).1)))
            have HH10 : Hid (W10.heap[Cb]? = some (.cells #[.string y2.name, .slice y2.vo y2.vm y2.vc, .slice y2.no y2.nn y2.nc, .slice y2.fo y2.fn y2.fc] 30 (0, 0))) := Lib.hid (by rw [← hW10]; exact But.heap (But.heap (But.heap (But.heap HH9.out))))
            have O10 := Lib.hid (Pr.own_box O2.out HH9.out hbt)
            clear hbt hW10 O2 k0 k1 k2 k3 kf HH9 HC9 s0 s1 s2 s3 s4 s5 s6 s7
            obtain ⟨⟨s0, s1, s2, s3⟩, s4, s5, s6, s7⟩ := BX.out _ HC10.out
            go_upto_region 12 with fail
            have hn3 : y2.nn = x.nn := L2.out.nn
            obtain ⟨G, cur, hno, hG, hcur, hcells⟩ := own_row (nodeL_len y2.nf) O10.out.n (by omega)
            have HCU := Lib.hid hcur
            have HG := Lib.hid hG
            have HNO := Lib.hid hno
            have hcb : Hid (cur[kn * 11 + 8]? = some (.bool (y2.nf kn).d.breaks)) := Lib.hid (by rw [hcells kn 8 (by omega) (by omega)]; rfl)
            have hGz : Hid (G < W10.heap.size) := Lib.hid (Array.getElem?_eq_some_iff.1 hcur).1
            have hne : Hid (Cb ≠ G) := Lib.hid (fun e => by have := HH10.out; rw [e, hcur] at this; simp at this)
            have hh10 := HH10.out
            rw [hno, hn3] at hh10
            have HB10 := Lib.hid hh10
            clear hcells hcur hG hno hh10 s0 s1 s2 s3 s4 s5 s6 s7
            have i1 : (kn : Int) < (x.nn : Int) := by omega
            have i2 : (0 : Int) ≤ (kn : Int) := by omega
            have HN3 := Lib.hid hn3
            clear hn3 hn2 j2 j3
            go_cut [71] (fun _ W => W.heap[G]? = some (.cells (cur.setIfInBounds (kn * 11 + 8) (.bool (!(y2.nf kn).d.breaks))) 25 (0, 0)) ∧ But G W10 W)
            case first =>
              refine wp_region_asrt (by kernel_rfl) (fun W => But G W10 W) (alBF Cb G x.nn y2.nc kn (y2.nf kn).d.breaks cur) alBDep alBNeed alBAnc alBKill 13 [some 71, some 72, some 73, some 74, some 75, some 76, some 77, some 78, some 79, some 80, some 81, some 82, none] rfl rfl (by kernel_rfl) alBDep_anc ⟨rfl, rfl, rfl, Nat.le_refl _, fun _ _ _ => rfl⟩ (fun j h => alBAnc_out h) (fun k hk => by rcases Nat.eq_or_lt_of_le hk with rfl | hk; exact HCU.out; obtain ⟨k, rfl⟩ : ∃ i, k = i + 14 := ⟨k - 14, by omega⟩; trivial) (fun j h => alBDep_out h) ⟨?_, ?_, ?_, ?_, ?_, ?_, ?_, ?_, ?_, ?_, ?_, ?_, ?_, trivial⟩ ?_
              · refine Step.mk (oi := _) rfl [] (fun cs b h => by cases h) (by kernel_rfl) (fun vs W hI hA => ?_)
                simp only [List.map]
                simp only [putR]
                refine SOp.val (v := .pointer (some ⟨Cb, 2, none⟩)) (w' := W) (by kernel_rfl) (by go_simp) ⟨hI, upd_self _ _ _, fun _ _ _ _ _ h => h⟩
              · refine Step.mk (oi := _) rfl [(71, 0)] (fun cs b h => by cases h) (by kernel_rfl) (fun vs W hI hA => ?_)
                simp only [List.map]
                have h0 : vs 0 = .pointer (some ⟨Cb, 2, none⟩) := hA 0 (by decide)
                rw [h0]
                have kb := cell_in (G := Cb) ((hI.block _ (Array.getElem?_eq_some_iff.1 HB10.out).1 hne.out).trans HB10.out) 2
                simp at kb
                simp only [putR, Act.put, List.setIfInBounds_toArray, List.set_cons_zero, List.set_cons_succ]
                refine SOp.val (v := .slice (some ⟨G, 0, none⟩) x.nn y2.nc) (w' := W) (by kernel_rfl) (by go_simp) ⟨hI, upd_self _ _ _, fun _ _ _ _ _ h => h⟩
              · refine Step.mk (oi := _) rfl [] (fun cs b h => by cases h) (by kernel_rfl) (fun vs W hI hA => ?_)
                simp only [List.map]
                simp only [putR]
                refine SOp.val (v := .int .i64 kn) (w' := W) (by kernel_rfl) (by go_simp) ⟨hI, upd_self _ _ _, fun _ _ _ _ _ h => h⟩
              · refine Step.mk (oi := _) rfl [] (fun cs b h => by cases h) (by kernel_rfl) (fun vs W hI hA => ?_)
                simp only [List.map]
                simp only [putR]
                refine SOp.val (v := .pointer (some ⟨Cb, 2, none⟩)) (w' := W) (by kernel_rfl) (by go_simp) ⟨hI, upd_self _ _ _, fun _ _ _ _ _ h => h⟩
              · refine Step.mk (oi := _) rfl [(74, 3)] (fun cs b h => by cases h) (by kernel_rfl) (fun vs W hI hA => ?_)
                simp only [List.map]
                have h3 : vs 3 = .pointer (some ⟨Cb, 2, none⟩) := hA 3 (by decide)
                rw [h3]
                have kb := cell_in (G := Cb) ((hI.block _ (Array.getElem?_eq_some_iff.1 HB10.out).1 hne.out).trans HB10.out) 2
                simp at kb
                simp only [putR, Act.put, List.setIfInBounds_toArray, List.set_cons_zero, List.set_cons_succ]
                refine SOp.val (v := .slice (some ⟨G, 0, none⟩) x.nn y2.nc) (w' := W) (by kernel_rfl) (by go_simp) ⟨hI, upd_self _ _ _, fun _ _ _ _ _ h => h⟩
              · refine Step.mk (oi := _) rfl [] (fun cs b h => by cases h) (by kernel_rfl) (fun vs W hI hA => ?_)
                simp only [List.map]
                simp only [putR]
                refine SOp.val (v := .int .i64 kn) (w' := W) (by kernel_rfl) (by go_simp) ⟨hI, upd_self _ _ _, fun _ _ _ _ _ h => h⟩
              · refine Step.mk (oi := _) rfl [(75, 4), (76, 5)] (fun cs b h => by cases h) (by kernel_rfl) (fun vs W hI hA => ?_)
                simp only [List.map]
                have h4 : vs 4 = .slice (some ⟨G, 0, none⟩) x.nn y2.nc := hA 4 (by decide)
                have h5 : vs 5 = .int .i64 kn := hA 5 (by decide)
                rw [h4, h5]
                simp only [putR, Act.put, List.setIfInBounds_toArray, List.set_cons_zero, List.set_cons_succ]
                refine SOp.val (v := .pointer (some ⟨G, kn * 11, none⟩)) (w' := W) (by kernel_rfl) (by go_simp) ⟨hI, upd_self _ _ _, fun _ _ _ _ _ h => h⟩
              · refine Step.mk (oi := _) rfl [(77, 6)] (fun cs b h => by cases h) (by kernel_rfl) (fun vs W hI hA => ?_)
                simp only [List.map]
                have h6 : vs 6 = .pointer (some ⟨G, kn * 11, none⟩) := hA 6 (by decide)
                rw [h6]
                simp only [putR, Act.put, List.setIfInBounds_toArray, List.set_cons_zero, List.set_cons_succ]
                refine SOp.val (v := .pointer (some ⟨G, kn * 11 + 8, none⟩)) (w' := W) (by kernel_rfl) (by go_simp) ⟨hI, upd_self _ _ _, fun _ _ _ _ _ h => h⟩
              · refine Step.mk (oi := _) rfl [(78, 7)] (fun cs b h => by cases h) (by kernel_rfl) (fun vs W hI hA => ?_)
                simp only [List.map]
                have h7 : vs 7 = .pointer (some ⟨G, kn * 11 + 8, none⟩) := hA 7 (by decide)
                rw [h7]
                have h13 : W.heap[G]? = some (.cells cur _ (0, 0)) := hA 13 (by decide)
                have kb := cell_in h13 (kn * 11 + 8)
                rw [hcb.out] at kb
                clear h13
                simp only [putR, Act.put, List.setIfInBounds_toArray, List.set_cons_zero, List.set_cons_succ]
                refine SOp.val (v := .bool (y2.nf kn).d.breaks) (w' := W) (by kernel_rfl) (by go_simp) ⟨hI, upd_self _ _ _, fun _ _ _ _ _ h => h⟩
              · refine Step.mk (oi := _) rfl [(79, 8)] (fun cs b h => by cases h) (by kernel_rfl) (fun vs W hI hA => ?_)
                simp only [List.map]
                have h8 : vs 8 = .bool (y2.nf kn).d.breaks := hA 8 (by decide)
                rw [h8]
                simp only [putR, Act.put, List.setIfInBounds_toArray, List.set_cons_zero, List.set_cons_succ]
                refine SOp.val (v := .bool (!(y2.nf kn).d.breaks)) (w' := W) (by kernel_rfl) (by go_simp) ⟨hI, upd_self _ _ _, fun _ _ _ _ _ h => h⟩
              · refine Step.mk (oi := _) rfl [(72, 1), (73, 2)] (fun cs b h => by cases h) (by kernel_rfl) (fun vs W hI hA => ?_)
                simp only [List.map]
                have h1 : vs 1 = .slice (some ⟨G, 0, none⟩) x.nn y2.nc := hA 1 (by decide)
                have h2 : vs 2 = .int .i64 kn := hA 2 (by decide)
                rw [h1, h2]
                simp only [putR, Act.put, List.setIfInBounds_toArray, List.set_cons_zero, List.set_cons_succ]
                refine SOp.val (v := .pointer (some ⟨G, kn * 11, none⟩)) (w' := W) (by kernel_rfl) (by go_simp) ⟨hI, upd_self _ _ _, fun _ _ _ _ _ h => h⟩
              · refine Step.mk (oi := _) rfl [(81, 10)] (fun cs b h => by cases h) (by kernel_rfl) (fun vs W hI hA => ?_)
                simp only [List.map]
                have h10 : vs 10 = .pointer (some ⟨G, kn * 11, none⟩) := hA 10 (by decide)
                rw [h10]
                simp only [putR, Act.put, List.setIfInBounds_toArray, List.set_cons_zero, List.set_cons_succ]
                refine SOp.val (v := .pointer (some ⟨G, kn * 11 + 8, none⟩)) (w' := W) (by kernel_rfl) (by go_simp) ⟨hI, upd_self _ _ _, fun _ _ _ _ _ h => h⟩
              · refine Step.mk (oi := _) rfl [(82, 11), (80, 9)] (fun cs b h => by cases h) (by kernel_rfl) (fun vs W hI hA => ?_)
                simp only [List.map]
                have h11 : vs 11 = .pointer (some ⟨G, kn * 11 + 8, none⟩) := hA 11 (by decide)
                have h9 : vs 9 = .bool (!(y2.nf kn).d.breaks) := hA 9 (by decide)
                rw [h11, h9]
                have h13 : W.heap[G]? = some (.cells cur _ (0, 0)) := hA 13 (by decide)
                have kb := cell_in h13 (kn * 11 + 8)
                rw [hcb.out] at kb
                have kf := froz_in h13 (kn * 11 + 8)
                simp only [putR, Act.put, List.setIfInBounds_toArray, List.set_cons_zero, List.set_cons_succ]
                refine SOp.done (w' := W.setCell ⟨G, kn * 11 + 8, none⟩ (.bool (!(y2.nf kn).d.breaks))) (by kernel_rfl) (by go_simp) ⟨hI.trans (But.setCell _ _ _ _), But.heap h13, fun j vs' a1 a2 a3 a4 => alBKeep [] (i := 12) (by decide) j vs' a1 a2 a3 rfl a4⟩
              · intro vs W hI hφ
                have h12 := hφ 12 (fun k _ => by simp [alBKill])
                simp only [putAll, Act.put, List.setIfInBounds_toArray, List.set_cons_zero, List.set_cons_succ]
                go_wp2_with fail
                go_meet
                exact ⟨h12, hI⟩
            case rest =>
              obtain ⟨h12, hbt⟩ := hcut
              obtain ⟨W11, hW11⟩ : ∃ W : World, W = wc := ⟨_, rfl⟩
              subst hW11
              have HC11 : Hid (Below w1.heap.size w1 W11) := Lib.hid (HC10.out.trans (hbt.below HG.out (Nat.le_of_lt hGz.out)))
              have O11 := Lib.hid (Pr.own_setB (k := kn) O10.out HNO.out HCU.out h12 hbt)
              have HH11 : Hid (W11.heap[Cb]? = some (.cells #[.string y2.name, .slice y2.vo y2.vm y2.vc, .slice y2.no y2.nn y2.nc, .slice y2.fo y2.fn y2.fc] 30 (0, 0))) := Lib.hid (by rw [hbt.block _ (Array.getElem?_eq_some_iff.1 HH10.out).1 hne.out]; exact HH10.out)
              clear h12 hbt HB10 hcb hGz hne HNO HCU HG O10 HH10
              obtain ⟨⟨s0, s1, s2, s3⟩, s4, s5, s6, s7⟩ := BX.out _ HC11.out
              go_wp2_with fail
              refine (CX.out _ (below_step HB1.out HC11.out) HSX.out).mono ?_
              rintro e w12 ⟨y3, rfl, l3, o3, r3, hb12⟩
              obtain ⟨W13, hW13⟩ : ∃ W, w12.alloc (.cells #[.string y3.name, .slice y3.vo y3.vm y3.vc, .slice y3.no y3.nn y3.nc, .slice y3.fo y3.fn y3.fc] 30) = W := ⟨_, rfl⟩
              have hal : Below w12.heap.size w12 W13 := by rw [← hW13]; exact (Below.refl _ _).alloc (Nat.le_refl _) _
              have hall := below_step hb12 hal
              have HC13 : Hid (Below w1.heap.size w1 W13) := Lib.hid (below_step HC11.out hall)
              have O13 := Lib.hid (Pr.own_mono O11.out hall)
              have HH13 : Hid (W13.heap[Cb]? = some (.cells #[.string y2.name, .slice y2.vo y2.vm y2.vc, .slice y2.no y2.nn y2.nc, .slice y2.fo y2.fn y2.fc] 30 (0, 0))) := Lib.hid (by rw [hall.block _ (Array.getElem?_eq_some_iff.1 HH11.out).1]; exact HH11.out)
              have P13 := Lib.hid (Pr.own_mono o3 hal)
              have HLE : Hid (Below W11.heap.size W11 W13) := Lib.hid hall
              have HD13 : Hid (W13.heap[w12.heap.size]? = some (.cells #[.string y3.name, .slice y3.vo y3.vm y3.vc, .slice y3.no y3.nn y3.nc, .slice y3.fo y3.fn y3.fc] 30 (0, 0))) := Lib.hid (by rw [← hW13]; exact heap_alloc_new _ _)
              have L3 := Lib.hid l3
              have R3 := Lib.hid r3
              have HW13 := Lib.hid hW13
              clear hall hal hW13 l3 r3 o3 hb12 s0 s1 s2 s3 s4 s5 s6 s7
              go_upto_region 14 with fail
              rw [HW13.out]
              have hn3 : y3.nn = x.nn := L3.out.nn
              have hkn : kn < y3.nn := by omega
              obtain ⟨H, curH, hno, hG, hcur, hcells⟩ := own_row (nodeL_len y3.nf) P13.out.n (by omega)
              have HCH := Lib.hid hcur
              have HG := Lib.hid hG
              have HNO := Lib.hid hno
              have hcb : Hid (curH[kn * 11 + 10]? = some (.slice (y3.nf kn).p (y3.nf kn).n (y3.nf kn).q)) := Lib.hid (by rw [hcells kn 10 hkn (by omega)]; rfl)
              have hd13 := HD13.out
              rw [hno, hn3] at hd13
              have HDB := Lib.hid hd13
              have HKN := Lib.hid hkn
              have hl50 : Hid ((y3.nf kn).n ≤ 50) := Lib.hid (by rw [(L3.out.nf kn).2.2.2.1]; exact (HSX.out.2.2.2.2 kn (by omega)).2)
              clear hcells hcur hG hno hd13 hn3 hkn
              go_cut [85] (fun _ W => Kp W11.heap.size tyP W13 W ∧ BackP y3 kn W)
              case first =>
                refine wp_region_asrt (by kernel_rfl) (fun W => Kp W11.heap.size tyP W13 W) (alCF W11.heap.size w12.heap.size H x.nn y3.nc kn y3 curH) alCDep alCNeed alCAnc alCKill 14 [some 85, some 86, some 87, some 88, some 89, some 90, some 91, some 92, some 93, some 94, some 95, some 96, some 97, none] rfl rfl (by kernel_rfl) alCDep_anc ⟨rfl, rfl, rfl, Nat.le_refl _, fun _ _ => rfl, fun _ _ _ _ h _ => h⟩ (fun j h => alCAnc_out h) (fun k hk => by rcases Nat.eq_or_lt_of_le hk with rfl | hk; exact HCH.out; rcases Nat.eq_or_lt_of_le hk with rfl | hk; exact (P13.out.z kn HKN.out).2; rcases Nat.eq_or_lt_of_le hk with rfl | hk; exact fun i hi _ => (P13.out.z i hi).2; obtain ⟨k, rfl⟩ : ∃ i, k = i + 17 := ⟨k - 17, by omega⟩; trivial) (fun j h => alCDep_out h) ⟨?_, ?_, ?_, ?_, ?_, ?_, ?_, ?_, ?_, ?_, ?_, ?_, ?_, ?_, trivial⟩ ?_
                · refine Step.mk (oi := _) rfl [] (fun cs b h => by cases h) (by kernel_rfl) (fun vs W hI hA => ?_)
                  simp only [List.map]
                  simp only [putR]
                  refine SOp.val (v := .pointer (some ⟨w12.heap.size, 2, none⟩)) (w' := W) (by kernel_rfl) (by go_simp) ⟨hI, upd_self _ _ _, fun _ _ _ _ _ h => h⟩
                · refine Step.mk (oi := _) rfl [(85, 0)] (fun cs b h => by cases h) (by kernel_rfl) (fun vs W hI hA => ?_)
                  simp only [List.map]
                  have h0 : vs 0 = .pointer (some ⟨w12.heap.size, 2, none⟩) := hA 0 (by decide)
                  rw [h0]
                  have kb := cell_in (hI.kept _ _ _ _ HDB.out (by decide)) 2
                  simp at kb
                  simp only [putR, Act.put, List.setIfInBounds_toArray, List.set_cons_zero, List.set_cons_succ]
                  refine SOp.val (v := .slice (some ⟨H, 0, none⟩) x.nn y3.nc) (w' := W) (by kernel_rfl) (by go_simp) ⟨hI, upd_self _ _ _, fun _ _ _ _ _ h => h⟩
                · refine Step.mk (oi := _) rfl [] (fun cs b h => by cases h) (by kernel_rfl) (fun vs W hI hA => ?_)
                  simp only [List.map]
                  simp only [putR]
                  refine SOp.val (v := .int .i64 kn) (w' := W) (by kernel_rfl) (by go_simp) ⟨hI, upd_self _ _ _, fun _ _ _ _ _ h => h⟩
                · refine Step.mk (oi := _) rfl [] (fun cs b h => by cases h) (by kernel_rfl) (fun vs W hI hA => ?_)
                  simp only [List.map]
                  simp only [putR]
                  refine SOp.val (v := .pointer (some ⟨w12.heap.size, 2, none⟩)) (w' := W) (by kernel_rfl) (by go_simp) ⟨hI, upd_self _ _ _, fun _ _ _ _ _ h => h⟩
                · refine Step.mk (oi := _) rfl [(88, 3)] (fun cs b h => by cases h) (by kernel_rfl) (fun vs W hI hA => ?_)
                  simp only [List.map]
                  have h3 : vs 3 = .pointer (some ⟨w12.heap.size, 2, none⟩) := hA 3 (by decide)
                  rw [h3]
                  have kb := cell_in (hI.kept _ _ _ _ HDB.out (by decide)) 2
                  simp at kb
                  simp only [putR, Act.put, List.setIfInBounds_toArray, List.set_cons_zero, List.set_cons_succ]
                  refine SOp.val (v := .slice (some ⟨H, 0, none⟩) x.nn y3.nc) (w' := W) (by kernel_rfl) (by go_simp) ⟨hI, upd_self _ _ _, fun _ _ _ _ _ h => h⟩
                · refine Step.mk (oi := _) rfl [] (fun cs b h => by cases h) (by kernel_rfl) (fun vs W hI hA => ?_)
                  simp only [List.map]
                  simp only [putR]
                  refine SOp.val (v := .int .i64 kn) (w' := W) (by kernel_rfl) (by go_simp) ⟨hI, upd_self _ _ _, fun _ _ _ _ _ h => h⟩
                · refine Step.mk (oi := _) rfl [(89, 4), (90, 5)] (fun cs b h => by cases h) (by kernel_rfl) (fun vs W hI hA => ?_)
                  simp only [List.map]
                  have h4 : vs 4 = .slice (some ⟨H, 0, none⟩) x.nn y3.nc := hA 4 (by decide)
                  have h5 : vs 5 = .int .i64 kn := hA 5 (by decide)
                  rw [h4, h5]
                  simp only [putR, Act.put, List.setIfInBounds_toArray, List.set_cons_zero, List.set_cons_succ]
                  refine SOp.val (v := .pointer (some ⟨H, kn * 11, none⟩)) (w' := W) (by kernel_rfl) (by go_simp) ⟨hI, upd_self _ _ _, fun _ _ _ _ _ h => h⟩
                · refine Step.mk (oi := _) rfl [(91, 6)] (fun cs b h => by cases h) (by kernel_rfl) (fun vs W hI hA => ?_)
                  simp only [List.map]
                  have h6 : vs 6 = .pointer (some ⟨H, kn * 11, none⟩) := hA 6 (by decide)
                  rw [h6]
                  simp only [putR, Act.put, List.setIfInBounds_toArray, List.set_cons_zero, List.set_cons_succ]
                  refine SOp.val (v := .pointer (some ⟨H, kn * 11 + 10, none⟩)) (w' := W) (by kernel_rfl) (by go_simp) ⟨hI, upd_self _ _ _, fun _ _ _ _ _ h => h⟩
                · refine Step.mk (oi := _) rfl [(92, 7)] (fun cs b h => by cases h) (by kernel_rfl) (fun vs W hI hA => ?_)
                  simp only [List.map]
                  have h7 : vs 7 = .pointer (some ⟨H, kn * 11 + 10, none⟩) := hA 7 (by decide)
                  rw [h7]
                  have h14 : W.heap[H]? = some (.cells curH 25 (0, 0)) := hA 14 (by decide)
                  have kb := cell_in h14 (kn * 11 + 10)
                  rw [hcb.out] at kb
                  clear h14
                  simp only [putR, Act.put, List.setIfInBounds_toArray, List.set_cons_zero, List.set_cons_succ]
                  refine SOp.val (v := .slice (y3.nf kn).p (y3.nf kn).n (y3.nf kn).q) (w' := W) (by kernel_rfl) (by go_simp) ⟨hI, upd_self _ _ _, fun _ _ _ _ _ h => h⟩
                · refine Step.mk (oi := _) rfl [] (fun cs b h => by cases h) (by kernel_rfl) (fun vs W hI hA => ?_)
                  simp only [List.map]
                  simp only [putR]
                  have hal := (Below.refl W.heap.size W).alloc (Nat.le_refl _) (.cells #[.string ⟨#[109, 111, 114, 101]⟩] 9)
                  refine SOp.val (v := .slice (some ⟨W.heap.size, 0, none⟩) 1 1) (w' := W.alloc (.cells #[.string ⟨#[109, 111, 114, 101]⟩] 9)) (by kernel_rfl) (by go_simp) ⟨hI.trans (Kp.of_below hal (Nat.le_trans HLE.out.size hI.size)), ⟨W.heap.size, upd_self _ _ _, heap_alloc_new _ _⟩, fun _ _ _ _ _ h => alCF_mono hal h⟩
                · refine Step.mk (oi := _) rfl [(93, 8), (94, 9)] (fun cs b h => by cases h) (by kernel_rfl) (fun vs W hI hA => ?_)
                  simp only [List.map]
                  have h8 : vs 8 = .slice (y3.nf kn).p (y3.nf kn).n (y3.nf kn).q := hA 8 (by decide)
                  rw [h8]
                  have h15 : W.ownsRow W11.heap.size 9 1 (.slice (y3.nf kn).p (y3.nf kn).n (y3.nf kn).q) (y3.nf kn).n (rcs (strL (y3.nf kn).g) 0 (y3.nf kn).n) := hA 15 (by decide)
                  obtain ⟨gg, hu, hgg⟩ := hA 9 (by decide)
                  have hnw : ∀ j u, ([.string moreT] : List Value)[j]? = some u → W.cell? ((Addr.mk gg 0 none).add j) = some u := by
                    intro j u hj
                    rw [Addr.add_lit, cell_of_row W gg _ _ 9 (0, 0) hgg, Nat.zero_add]
                    simpa using hj
                  have hl := hl50.out
                  obtain ⟨v', W', hr, ho, hgr⟩ := app_str W W11.heap.size _ (y3.nf kn).n _ h15 ⟨gg, 0, none⟩ 1 1 [.string moreT] rfl hnw (by intro u hu; simp at hu; subst hu; rfl) (by omega) (Nat.le_trans HLE.out.size hI.size)
                  rw [more_row] at ho
                  clear hl
                  rw [hu]
                  simp only [putR, Act.put, List.setIfInBounds_toArray, List.set_cons_zero, List.set_cons_succ]
                  refine SOp.val (v := v') (w' := W') (by kernel_rfl) (by simp [execOp, resolve, invoke, builtin, Act.eval, hr, Result.andThen]) ⟨hI.trans (kp_grown h15 hgr (Nat.le_trans HLE.out.size hI.size) (by decide)), (show W'.ownsRow _ _ 1 (upd vs 10 v' 10) _ _ by rw [upd_self]; exact ho), ?_⟩
                  intro j vs' a1 a2 a3 a4
                  by_cases e14 : j = 14
                  · subst e14; exact grown_block h15 hgr a4 (by decide)
                  by_cases e16 : j = 16
                  · subst e16; exact fun i hi hk => own_grow (a4 i hi hk) hgr (fun g hg => P13.out.sep i kn hi HKN.out hk g hg)
                  exact alCKeep [14, 16] (i := 10) (by decide) j vs' a1 a2 a3 (by simp [e14, e16]) a4
                · refine Step.mk (oi := _) rfl [(86, 1), (87, 2)] (fun cs b h => by cases h) (by kernel_rfl) (fun vs W hI hA => ?_)
                  simp only [List.map]
                  have h1 : vs 1 = .slice (some ⟨H, 0, none⟩) x.nn y3.nc := hA 1 (by decide)
                  have h2 : vs 2 = .int .i64 kn := hA 2 (by decide)
                  rw [h1, h2]
                  simp only [putR, Act.put, List.setIfInBounds_toArray, List.set_cons_zero, List.set_cons_succ]
                  refine SOp.val (v := .pointer (some ⟨H, kn * 11, none⟩)) (w' := W) (by kernel_rfl) (by go_simp) ⟨hI, upd_self _ _ _, fun _ _ _ _ _ h => h⟩
                · refine Step.mk (oi := _) rfl [(96, 11)] (fun cs b h => by cases h) (by kernel_rfl) (fun vs W hI hA => ?_)
                  simp only [List.map]
                  have h11 : vs 11 = .pointer (some ⟨H, kn * 11, none⟩) := hA 11 (by decide)
                  rw [h11]
                  simp only [putR, Act.put, List.setIfInBounds_toArray, List.set_cons_zero, List.set_cons_succ]
                  refine SOp.val (v := .pointer (some ⟨H, kn * 11 + 10, none⟩)) (w' := W) (by kernel_rfl) (by go_simp) ⟨hI, upd_self _ _ _, fun _ _ _ _ _ h => h⟩
                · refine Step.mk (oi := _) rfl [(97, 12), (95, 10)] (fun cs b h => by cases h) (by kernel_rfl) (fun vs W hI hA => ?_)
                  simp only [List.map]
                  have h12 : vs 12 = .pointer (some ⟨H, kn * 11 + 10, none⟩) := hA 12 (by decide)
                  rw [h12]
                  have h14 : W.heap[H]? = some (.cells curH 25 (0, 0)) := hA 14 (by decide)
                  obtain ⟨o10, c10, h10, _⟩ := ownC_form (hA 10 (by decide))
                  have kb := cell_in h14 (kn * 11 + 10)
                  rw [hcb.out] at kb
                  have kf := froz_in h14 (kn * 11 + 10)
                  rw [h10]
                  simp only [putR, Act.put, List.setIfInBounds_toArray, List.set_cons_zero, List.set_cons_succ]
                  refine SOp.done (w' := W.setCell ⟨H, kn * 11 + 10, none⟩ (.slice o10 ((y3.nf kn).n + 1) c10)) (by kernel_rfl) (by go_simp) ⟨hI.trans (Kp.of_but (But.setCell _ _ _ _) HG.out h14 (by decide)), ?_, ?_⟩
                  · show _ = some (Obj.cells (curH.setIfInBounds (kn * 11 + 10) (vs 10)) _ _)
                    rw [h10]
                    exact But.heap h14
                  · intro j vs' a1 a2 a3 a4
                    by_cases e10 : j = 10
                    · subst e10; exact ownC_but a4 h14 (by decide) (But.setCell _ _ _ _)
                    by_cases e16 : j = 16
                    · subst e16; exact fun i hi hk => ownC_but (a4 i hi hk) h14 (by decide) (But.setCell _ _ _ _)
                    exact alCKeep [10, 16] (i := 13) (by decide) j vs' a1 a2 a3 (by simp [e10, e16]) a4
                · intro vs W hI hφ
                  have h13 : W.heap[H]? = some (.cells (curH.setIfInBounds (kn * 11 + 10) (vs 10)) 25 (0, 0)) := hφ 13 (fun k _ => by simp [alCKill])
                  have p10 : W.ownsRow W11.heap.size 9 1 (vs 10) ((y3.nf kn).n + 1) (rcs (strL (moreG (y3.nf kn).g (y3.nf kn).n)) 0 ((y3.nf kn).n + 1)) := hφ 10 (fun k _ => by simp [alCKill])
                  have p16 := hφ 16 (fun k _ => by simp [alCKill])
                  obtain ⟨o10, c10, h10, hle⟩ := ownC_form p10
                  rw [h10] at h13 p10
                  have HBK : Hid (BackP y3 kn W) := Lib.hid ⟨o10, c10, Pr.setP_at P13.out HNO.out HCH.out hI h13 p10 p16, hle⟩
                  have HI := Lib.hid hI
                  clear h13 p10 p16 h10 hφ hI
                  simp only [putAll, Act.put, List.setIfInBounds_toArray, List.set_cons_zero, List.set_cons_succ]
                  go_wp2_with fail
                  go_meet
                  exact ⟨HI.out, HBK.out⟩
              case rest =>
                obtain ⟨hK, o, q, hat, hq⟩ := hcut
                have hbK := HLE.out.trans hK.below
                have HC15 : Hid (Below w1.heap.size w1 wc) := Lib.hid (below_step HC11.out hbK)
                have O15 := Lib.hid (Pr.own_mono O11.out hbK)
                have HH15 : Hid (wc.heap[Cb]? = some (.cells #[.string y2.name, .slice y2.vo y2.vm y2.vc, .slice y2.no y2.nn y2.nc, .slice y2.fo y2.fn y2.fc] 30 (0, 0))) := Lib.hid (by rw [hbK.block _ (Array.getElem?_eq_some_iff.1 HH11.out).1]; exact HH11.out)
                have HD15 := Lib.hid (hK.kept _ _ _ _ HD13.out (by decide))
                have F3 := Lib.hid (Pr.setP_fit (o := o) (copy_fit FX.out L3.out P13.out R3.out) hq (by have := hl50.out; omega))
                have HAT := Lib.hid hat
                have hk2 : kn < y2.nn := by rw [L2.out.nn]; omega
                have SM0 := SZX.out (y2.setB kn (!(y2.nf kn).d.breaks)) wc (Pr.own_at O15.out) (Pr.setB_fit F2.out) (below_step HB1.out HC15.out)
                rw [sameP_node (x := y2.setB kn (!(y2.nf kn).d.breaks)) (y := x) (k := kn) hk2 (sameK_breaks (by rw [← (L2.out.nf kn).1]; unfold Pr.setB; simp))] at SM0
                have SN0 := fun (W : World) (hb : Below wc.heap.size wc W) => SZX.out (y3.setP kn o q) W (HAT.out.below hb) F3.out (below_step (below_step HB1.out HC15.out) hb)
                rw [sameP_node (x := y3.setP kn o q) (y := x) (k := kn) HKN.out (sameK_back (by rw [← (L3.out.nf kn).2.2.2.1]; unfold Pr.setP; simp))] at SN0
                have SM := Lib.hid SM0
                have SN := Lib.hid SN0
                clear SM0 SN0 hK hat hq hbK hk2
                obtain ⟨⟨s0, s1, s2, s3⟩, s4, s5, s6, s7⟩ := BX.out _ HC15.out
                have k0 := cell_in HH15.out 0
                have k1 := cell_in HH15.out 1
                have k2 := cell_in HH15.out 2
                have k3 := cell_in HH15.out 3
                simp at k0 k1 k2 k3
                go_wp2_with fail
                refine SM.out.mono ?_
                rintro e w16 ⟨rfl, hb16⟩
                have HB16 := Lib.hid hb16
                have HC16 := Lib.hid (below_step HC15.out hb16)
                have hD := HD15.out
                have d0 := cell_in ((hb16.block _ (Array.getElem?_eq_some_iff.1 hD).1).trans hD) 0
                have d1 := cell_in ((hb16.block _ (Array.getElem?_eq_some_iff.1 hD).1).trans hD) 1
                have d2 := cell_in ((hb16.block _ (Array.getElem?_eq_some_iff.1 hD).1).trans hD) 2
                have d3 := cell_in ((hb16.block _ (Array.getElem?_eq_some_iff.1 hD).1).trans hD) 3
                simp at d0 d1 d2 d3
                clear hD hb16 k0 k1 k2 k3 s0 s1 s2 s3 s4 s5 s6 s7
                obtain ⟨⟨s0, s1, s2, s3⟩, s4, s5, s6, s7⟩ := BX.out _ HC16.out
                go_wp2_with fail
                refine (SN.out _ HB16.out).mono ?_
                rintro e w17 ⟨rfl, hb17⟩
                have HBX : Hid (BoxW w1 Cb w17) := Lib.hid ⟨below_step HC16.out hb17, HCb.out, _, _, _, _, (by rw [hb17.block _ (Nat.lt_of_lt_of_le (Array.getElem?_eq_some_iff.1 HH15.out).1 HB16.out.size), HB16.out.block _ (Array.getElem?_eq_some_iff.1 HH15.out).1]; exact HH15.out)⟩
                clear hb17
                go_wp2_with fail
                go_meet
                exact HBX.out
        case rest =>
          have HKB := Lib.hid hcut
          clear hcut
          obtain ⟨hb8, _, ca, cb, cc, cd, hh8⟩ := HKB.out
          have HC8 := Lib.hid hb8
          have HH8 := Lib.hid hh8
          clear hb8 hh8
          obtain ⟨⟨s0, s1, s2, s3⟩, s4, s5, s6, s7⟩ := BX.out _ HC8.out
          by_cases hn0 : x.fn = 0
          · have hn1 : ((x.fn : Int) == 0) = true := b8 hn0
            go_wp2_with fail
            go_ret
            exact ⟨rfl, below_step HB1.out HC8.out⟩
          · have hn2 : 0 < x.fn := by omega
            obtain ⟨kn, j1, j2, j3⟩ := less_at n x.fn hn2
            have hn4 : ((x.fn : Int) == 0) = false := b8n hn0
            have hn5 : x.fn ≤ 200 := HSX.out.2.2.1
            clear hn0
            go_wp2_with fail
            refine (CX.out _ (below_step HB1.out HC8.out) HSX.out).mono ?_
            rintro e w9 ⟨y2, rfl, l2, o2, r2, hb9⟩
            have HC9 := Lib.hid (below_step HC8.out hb9)
            have HH9 : Hid (w9.heap[Cb]? = some (.cells #[ca, cb, cc, cd] 30 (0, 0))) := Lib.hid (by rw [hb9.block _ (Array.getElem?_eq_some_iff.1 HH8.out).1]; exact HH8.out)
            have O2 := Lib.hid (Pr.own_base o2 HC8.out.size)
            have L2 := Lib.hid l2
            have F2 := Lib.hid (copy_fit FX.out l2 o2 r2)
            clear hb9 o2 l2 r2 s0 s1 s2 s3 s4 s5 s6 s7 HH8
            obtain ⟨⟨s0, s1, s2, s3⟩, s4, s5, s6, s7⟩ := BX.out _ HC9.out
            have k0 := cell_in HH9.out 0
            have k1 := cell_in HH9.out 1
            have k2 := cell_in HH9.out 2
            have k3 := cell_in HH9.out 3
            have kf := froz_in HH9.out
            simp at k0 k1 k2 k3
            go_upto_region 20 with fail
            obtain ⟨W10, hW10⟩ : ∃ W, (((w9.setCell ⟨Cb, 0, none⟩ (.string y2.name)).setCell ⟨Cb, 1, none⟩ (.slice y2.vo y2.vm y2.vc)).setCell ⟨Cb, 2, none⟩ (.slice y2.no y2.nn y2.nc)).setCell ⟨Cb, 3, none⟩ (.slice y2.fo y2.fn y2.fc) = W := ⟨_, rfl⟩
            rw [hW10]
            have hbt : But Cb w9 W10 := by rw [← hW10]; exact (((But.setCell _ _ _ _).trans (But.setCell _ _ _ _)).trans (But.setCell _ _ _ _)).trans (But.setCell _ _ _ _)
            have HC10 : Hid (Below w1.heap.size w1 W10) := Lib.hid (HC9.out.trans (hbt.below HCb.out (Nat.le_of_lt (Array.getElem?_eq_some_iff.1 HH9.out).1)))
            have HH10 : Hid (W10.heap[Cb]? = some (.cells #[.string y2.name, .slice y2.vo y2.vm y2.vc, .slice y2.no y2.nn y2.nc, .slice y2.fo y2.fn y2.fc] 30 (0, 0))) := Lib.hid (by rw [← hW10]; exact But.heap (But.heap (But.heap (But.heap HH9.out))))
            have O10 := Lib.hid (Pr.own_box O2.out HH9.out hbt)
            clear hbt hW10 O2 k0 k1 k2 k3 kf HH9 HC9 s0 s1 s2 s3 s4 s5 s6 s7
            obtain ⟨⟨s0, s1, s2, s3⟩, s4, s5, s6, s7⟩ := BX.out _ HC10.out
            go_upto_region 21 with fail
            have hn3 : y2.fn = x.fn := L2.out.fn
            obtain ⟨G, cur, hno, hG, hcur, hcells⟩ := own_row (flowL_len y2.ff) O10.out.f (by omega)
            have HCU := Lib.hid hcur
            have HG := Lib.hid hG
            have HNO := Lib.hid hno
            have hcb : Hid (cur[kn * 4 + 3]? = some (.bool (y2.ff kn).els)) := Lib.hid (by rw [hcells kn 3 (by omega) (by omega)]; rfl)
            have hGz : Hid (G < W10.heap.size) := Lib.hid (Array.getElem?_eq_some_iff.1 hcur).1
            have hne : Hid (Cb ≠ G) := Lib.hid (fun e => by have := HH10.out; rw [e, hcur] at this; simp at this)
            have hh10 := HH10.out
            rw [hno, hn3] at hh10
            have HB10 := Lib.hid hh10
            have HK2 : Hid (kn < y2.fn) := Lib.hid (by omega)
            clear hcells hcur hG hno hh10 s0 s1 s2 s3 s4 s5 s6 s7
            have i1 : (kn : Int) < (x.fn : Int) := by omega
            have i2 : (0 : Int) ≤ (kn : Int) := by omega
            clear hn3 hn2 j2 j3
            go_cut [120] (fun _ W => W.heap[G]? = some (.cells (cur.setIfInBounds (kn * 4 + 3) (.bool (!(y2.ff kn).els))) 48 (0, 0)) ∧ But G W10 W)
            case first =>
              refine wp_region_asrt (by kernel_rfl) (fun W => But G W10 W) (alDF Cb G x.fn y2.fc kn (y2.ff kn).els cur) alDDep alDNeed alDAnc alDKill 13 [some 120, some 121, some 122, some 123, some 124, some 125, some 126, some 127, some 128, some 129, some 130, some 131, none] rfl rfl (by kernel_rfl) alDDep_anc ⟨rfl, rfl, rfl, Nat.le_refl _, fun _ _ _ => rfl⟩ (fun j h => alDAnc_out h) (fun k hk => by rcases Nat.eq_or_lt_of_le hk with rfl | hk; exact HCU.out; obtain ⟨k, rfl⟩ : ∃ i, k = i + 14 := ⟨k - 14, by omega⟩; trivial) (fun j h => alDDep_out h) ⟨?_, ?_, ?_, ?_, ?_, ?_, ?_, ?_, ?_, ?_, ?_, ?_, ?_, trivial⟩ ?_
              · refine Step.mk (oi := _) rfl [] (fun cs b h => by cases h) (by kernel_rfl) (fun vs W hI hA => ?_)
                simp only [List.map]
                simp only [putR]
                refine SOp.val (v := .pointer (some ⟨Cb, 3, none⟩)) (w' := W) (by kernel_rfl) (by go_simp) ⟨hI, upd_self _ _ _, fun _ _ _ _ _ h => h⟩
              · refine Step.mk (oi := _) rfl [(120, 0)] (fun cs b h => by cases h) (by kernel_rfl) (fun vs W hI hA => ?_)
                simp only [List.map]
                have h0 : vs 0 = .pointer (some ⟨Cb, 3, none⟩) := hA 0 (by decide)
                rw [h0]
                have kb := cell_in (G := Cb) ((hI.block _ (Array.getElem?_eq_some_iff.1 HB10.out).1 hne.out).trans HB10.out) 3
                simp at kb
                simp only [putR, Act.put, List.setIfInBounds_toArray, List.set_cons_zero, List.set_cons_succ]
                refine SOp.val (v := .slice (some ⟨G, 0, none⟩) x.fn y2.fc) (w' := W) (by kernel_rfl) (by go_simp) ⟨hI, upd_self _ _ _, fun _ _ _ _ _ h => h⟩
              · refine Step.mk (oi := _) rfl [] (fun cs b h => by cases h) (by kernel_rfl) (fun vs W hI hA => ?_)
                simp only [List.map]
                simp only [putR]
                refine SOp.val (v := .int .i64 kn) (w' := W) (by kernel_rfl) (by go_simp) ⟨hI, upd_self _ _ _, fun _ _ _ _ _ h => h⟩
              · refine Step.mk (oi := _) rfl [] (fun cs b h => by cases h) (by kernel_rfl) (fun vs W hI hA => ?_)
                simp only [List.map]
                simp only [putR]
                refine SOp.val (v := .pointer (some ⟨Cb, 3, none⟩)) (w' := W) (by kernel_rfl) (by go_simp) ⟨hI, upd_self _ _ _, fun _ _ _ _ _ h => h⟩
              · refine Step.mk (oi := _) rfl [(123, 3)] (fun cs b h => by cases h) (by kernel_rfl) (fun vs W hI hA => ?_)
                simp only [List.map]
                have h3 : vs 3 = .pointer (some ⟨Cb, 3, none⟩) := hA 3 (by decide)
                rw [h3]
                have kb := cell_in (G := Cb) ((hI.block _ (Array.getElem?_eq_some_iff.1 HB10.out).1 hne.out).trans HB10.out) 3
                simp at kb
                simp only [putR, Act.put, List.setIfInBounds_toArray, List.set_cons_zero, List.set_cons_succ]
                refine SOp.val (v := .slice (some ⟨G, 0, none⟩) x.fn y2.fc) (w' := W) (by kernel_rfl) (by go_simp) ⟨hI, upd_self _ _ _, fun _ _ _ _ _ h => h⟩
              · refine Step.mk (oi := _) rfl [] (fun cs b h => by cases h) (by kernel_rfl) (fun vs W hI hA => ?_)
                simp only [List.map]
                simp only [putR]
                refine SOp.val (v := .int .i64 kn) (w' := W) (by kernel_rfl) (by go_simp) ⟨hI, upd_self _ _ _, fun _ _ _ _ _ h => h⟩
              · refine Step.mk (oi := _) rfl [(124, 4), (125, 5)] (fun cs b h => by cases h) (by kernel_rfl) (fun vs W hI hA => ?_)
                simp only [List.map]
                have h4 : vs 4 = .slice (some ⟨G, 0, none⟩) x.fn y2.fc := hA 4 (by decide)
                have h5 : vs 5 = .int .i64 kn := hA 5 (by decide)
                rw [h4, h5]
                simp only [putR, Act.put, List.setIfInBounds_toArray, List.set_cons_zero, List.set_cons_succ]
                refine SOp.val (v := .pointer (some ⟨G, kn * 4, none⟩)) (w' := W) (by kernel_rfl) (by go_simp) ⟨hI, upd_self _ _ _, fun _ _ _ _ _ h => h⟩
              · refine Step.mk (oi := _) rfl [(126, 6)] (fun cs b h => by cases h) (by kernel_rfl) (fun vs W hI hA => ?_)
                simp only [List.map]
                have h6 : vs 6 = .pointer (some ⟨G, kn * 4, none⟩) := hA 6 (by decide)
                rw [h6]
                simp only [putR, Act.put, List.setIfInBounds_toArray, List.set_cons_zero, List.set_cons_succ]
                refine SOp.val (v := .pointer (some ⟨G, kn * 4 + 3, none⟩)) (w' := W) (by kernel_rfl) (by go_simp) ⟨hI, upd_self _ _ _, fun _ _ _ _ _ h => h⟩
              · refine Step.mk (oi := _) rfl [(127, 7)] (fun cs b h => by cases h) (by kernel_rfl) (fun vs W hI hA => ?_)
                simp only [List.map]
                have h7 : vs 7 = .pointer (some ⟨G, kn * 4 + 3, none⟩) := hA 7 (by decide)
                rw [h7]
                have h13 : W.heap[G]? = some (.cells cur _ (0, 0)) := hA 13 (by decide)
                have kb := cell_in h13 (kn * 4 + 3)
                rw [hcb.out] at kb
                clear h13
                simp only [putR, Act.put, List.setIfInBounds_toArray, List.set_cons_zero, List.set_cons_succ]
                refine SOp.val (v := .bool (y2.ff kn).els) (w' := W) (by kernel_rfl) (by go_simp) ⟨hI, upd_self _ _ _, fun _ _ _ _ _ h => h⟩
              · refine Step.mk (oi := _) rfl [(128, 8)] (fun cs b h => by cases h) (by kernel_rfl) (fun vs W hI hA => ?_)
                simp only [List.map]
                have h8 : vs 8 = .bool (y2.ff kn).els := hA 8 (by decide)
                rw [h8]
                simp only [putR, Act.put, List.setIfInBounds_toArray, List.set_cons_zero, List.set_cons_succ]
                refine SOp.val (v := .bool (!(y2.ff kn).els)) (w' := W) (by kernel_rfl) (by go_simp) ⟨hI, upd_self _ _ _, fun _ _ _ _ _ h => h⟩
              · refine Step.mk (oi := _) rfl [(121, 1), (122, 2)] (fun cs b h => by cases h) (by kernel_rfl) (fun vs W hI hA => ?_)
                simp only [List.map]
                have h1 : vs 1 = .slice (some ⟨G, 0, none⟩) x.fn y2.fc := hA 1 (by decide)
                have h2 : vs 2 = .int .i64 kn := hA 2 (by decide)
                rw [h1, h2]
                simp only [putR, Act.put, List.setIfInBounds_toArray, List.set_cons_zero, List.set_cons_succ]
                refine SOp.val (v := .pointer (some ⟨G, kn * 4, none⟩)) (w' := W) (by kernel_rfl) (by go_simp) ⟨hI, upd_self _ _ _, fun _ _ _ _ _ h => h⟩
              · refine Step.mk (oi := _) rfl [(130, 10)] (fun cs b h => by cases h) (by kernel_rfl) (fun vs W hI hA => ?_)
                simp only [List.map]
                have h10 : vs 10 = .pointer (some ⟨G, kn * 4, none⟩) := hA 10 (by decide)
                rw [h10]
                simp only [putR, Act.put, List.setIfInBounds_toArray, List.set_cons_zero, List.set_cons_succ]
                refine SOp.val (v := .pointer (some ⟨G, kn * 4 + 3, none⟩)) (w' := W) (by kernel_rfl) (by go_simp) ⟨hI, upd_self _ _ _, fun _ _ _ _ _ h => h⟩
              · refine Step.mk (oi := _) rfl [(131, 11), (129, 9)] (fun cs b h => by cases h) (by kernel_rfl) (fun vs W hI hA => ?_)
                simp only [List.map]
                have h11 : vs 11 = .pointer (some ⟨G, kn * 4 + 3, none⟩) := hA 11 (by decide)
                have h9 : vs 9 = .bool (!(y2.ff kn).els) := hA 9 (by decide)
                rw [h11, h9]
                have h13 : W.heap[G]? = some (.cells cur _ (0, 0)) := hA 13 (by decide)
                have kb := cell_in h13 (kn * 4 + 3)
                rw [hcb.out] at kb
                have kf := froz_in h13 (kn * 4 + 3)
                simp only [putR, Act.put, List.setIfInBounds_toArray, List.set_cons_zero, List.set_cons_succ]
                refine SOp.done (w' := W.setCell ⟨G, kn * 4 + 3, none⟩ (.bool (!(y2.ff kn).els))) (by kernel_rfl) (by go_simp) ⟨hI.trans (But.setCell _ _ _ _), But.heap h13, fun j vs' a1 a2 a3 a4 => alDKeep [] (i := 12) (by decide) j vs' a1 a2 a3 rfl a4⟩
              · intro vs W hI hφ
                have h12 := hφ 12 (fun k _ => by simp [alDKill])
                simp only [putAll, Act.put, List.setIfInBounds_toArray, List.set_cons_zero, List.set_cons_succ]
                go_wp2_with fail
                go_meet
                exact ⟨h12, hI⟩
            case rest =>
              obtain ⟨h12, hbt⟩ := hcut
              have HC11 : Hid (Below w1.heap.size w1 wc) := Lib.hid (HC10.out.trans (hbt.below HG.out (Nat.le_of_lt hGz.out)))
              have O11 := Lib.hid (Pr.own_setE (k := kn) O10.out HNO.out HCU.out h12 hbt)
              have HH11 : Hid (wc.heap[Cb]? = some (.cells #[.string y2.name, .slice y2.vo y2.vm y2.vc, .slice y2.no y2.nn y2.nc, .slice y2.fo y2.fn y2.fc] 30 (0, 0))) := Lib.hid (by rw [hbt.block _ (Array.getElem?_eq_some_iff.1 HH10.out).1 hne.out]; exact HH10.out)
              have SM0 := SZX.out (y2.setE kn (!(y2.ff kn).els)) wc (Pr.own_at O11.out) (Pr.setE_fit F2.out) (below_step HB1.out HC11.out)
              rw [sameP_flow (x := y2.setE kn (!(y2.ff kn).els)) (y := x) (k := kn) HK2.out (by rw [← L2.out.ff]; unfold Pr.setE; simp)] at SM0
              have SM := Lib.hid SM0
              clear SM0 h12 hbt
              obtain ⟨⟨s0, s1, s2, s3⟩, s4, s5, s6, s7⟩ := BX.out _ HC11.out
              have k0 := cell_in HH11.out 0
              have k1 := cell_in HH11.out 1
              have k2 := cell_in HH11.out 2
              have k3 := cell_in HH11.out 3
              simp at k0 k1 k2 k3
              go_wp2_with fail
              refine SM.out.mono ?_
              rintro e w16 ⟨rfl, hb16⟩
              have HE := Lib.hid (below_step HB1.out (below_step HC11.out hb16))
              clear hb16
              go_wp2_with fail
              go_ret
              exact ⟨rfl, HE.out⟩
end Go.Proofs.YtdnelpmolenkoaaDoor
