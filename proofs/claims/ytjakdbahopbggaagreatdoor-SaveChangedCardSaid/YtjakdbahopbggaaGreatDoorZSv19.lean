/- What callboardref18.Same returns: whether two states are the same. Conditions: as many elements as large lets by. -/
import Derived.Test.YtjakdbahopbggaaGreatDoorZSv9
import Derived.Deep.DeepCutAuto
namespace Go.Proofs.YtjakdbahopbggaaGreatDoor
open Go.RowKit Go.Ow Go.Wi Go.Inv2

/-- what each operation of the region leaves -/
def s18F (k n1 c1 n2 c2 : Nat) (B : Nat) (o1 o2 : Option Addr) (p1 p2 : Value) (x1 x2 : Array Value) (q : Bool) : Nat → Value → List Value → World → Prop
  | 0, u, _, _ => u = .pointer (some ⟨B, 2, none⟩)
  | 1, u, _, _ => u = .slice o1 n1 c1
  | 2, u, _, _ => u = .int .i64 k
  | 3, u, _, _ => u = p1
  | 4, u, _, _ => u = .agg x1
  | 5, u, _, _ => u = .pointer (some ⟨B + 1, 2, none⟩)
  | 6, u, _, _ => u = .slice o2 n2 c2
  | 7, u, _, _ => u = .int .i64 k
  | 8, u, _, _ => u = p2
  | 9, u, _, _ => u = .agg x2
  | 10, u, _, _ => u = .bool q
  | 11, u, _, _ => u = .bool (!q)
  | _, _, _, _ => True
def s18Anc (i : Nat) : List Nat := ([[], [0], [], [0, 1, 2], [0, 1, 2, 3], [], [5], [], [5, 6, 7], [5, 6, 7, 8], [0, 1, 2, 3, 4, 5, 6, 7, 8, 9], [0, 1, 2, 3, 4, 5, 6, 7, 8, 9, 10]] : List (List Nat)).getD i []
def s18Need (i : Nat) : List Nat := ([[], [0], [], [1, 2], [3], [], [5], [], [6, 7], [8], [4, 9], [10]] : List (List Nat)).getD i []
def s18Dep (i : Nat) : List Nat := ([[], [], [], [], [], [], [], [], [], [], [], []] : List (List Nat)).getD i []
def s18Kill (_ _ : Nat) : Bool := false
def s18Pure (j : Nat) : Bool := !([].contains j)
theorem s18F_pure {j : Nat} {u : Value} {ds : List Value} {w w' : World} {k n1 c1 n2 c2 : Nat} {B : Nat} {o1 o2 : Option Addr} {p1 p2 : Value} {x1 x2 : Array Value} {q : Bool} (hp : s18Pure j = true) (h : s18F k n1 c1 n2 c2 B o1 o2 p1 p2 x1 x2 q j u ds w) : s18F k n1 c1 n2 c2 B o1 o2 p1 p2 x1 x2 q j u ds w' := by
  match j with
  | 0 => exact h
  | 1 => exact h
  | 2 => exact h
  | 3 => exact h
  | 4 => exact h
  | 5 => exact h
  | 6 => exact h
  | 7 => exact h
  | 8 => exact h
  | 9 => exact h
  | 10 => exact h
  | 11 => exact h
  | _ + 12 => trivial
theorem s18F_mono {j : Nat} {u : Value} {ds : List Value} {w w' : World} {k n1 c1 n2 c2 : Nat} {B : Nat} {o1 o2 : Option Addr} {p1 p2 : Value} {x1 x2 : Array Value} {q : Bool} (_hb : Below w.heap.size w w') (h : s18F k n1 c1 n2 c2 B o1 o2 p1 p2 x1 x2 q j u ds w) : s18F k n1 c1 n2 c2 B o1 o2 p1 p2 x1 x2 q j u ds w' := by
  match j with
  | 0 => exact h
  | 1 => exact h
  | 2 => exact h
  | 3 => exact h
  | 4 => exact h
  | 5 => exact h
  | 6 => exact h
  | 7 => exact h
  | 8 => exact h
  | 9 => exact h
  | 10 => exact h
  | 11 => exact h
  | _ + 12 => trivial
theorem s18Keep (x : List Nat) {i : Nat} (h : ((List.range 12).all fun j => s18Pure j || j == i || s18Kill i j || (s18Anc j).contains i || x.contains j) = true) {w w' : World} {k n1 c1 n2 c2 : Nat} {B : Nat} {o1 o2 : Option Addr} {p1 p2 : Value} {x1 x2 : Array Value} {q : Bool} : ∀ j (vs' : Nat → Value), j ≠ i → s18Kill i j = false → (s18Anc j).contains i = false → (x.contains j = false) →
    asrt (s18F k n1 c1 n2 c2 B o1 o2 p1 p2 x1 x2 q) s18Dep j vs' w → asrt (s18F k n1 c1 n2 c2 B o1 o2 p1 p2 x1 x2 q) s18Dep j vs' w' := by
  intro j vs' h1 h2 h3 h0 h4
  by_cases hj : j < 12
  · have := List.all_eq_true.1 h j (List.mem_range.2 hj)
    rw [h2, h3, h0] at this
    simp only [Bool.or_false, Bool.or_eq_true, beq_iff_eq] at this
    rcases this with h5 | h5
    · exact s18F_pure h5 h4
    · exact absurd h5 h1
  · exact s18F_pure (by unfold s18Pure; simp) h4
theorem s18Anc_out {j : Nat} (h : 12 ≤ j) : s18Anc j = [] := by
  unfold s18Anc
  rw [List.getD_eq_getElem?_getD, List.getElem?_eq_none (by simpa using h)]
  rfl
theorem s18Dep_out {j : Nat} (h : 12 ≤ j) : s18Dep j = [] := by
  unfold s18Dep
  rw [List.getD_eq_getElem?_getD, List.getElem?_eq_none (by simpa using h)]
  rfl
theorem s18Dep_anc : ∀ j, ∀ d ∈ s18Dep j, d ∈ s18Anc j := by
  intro j d hd
  by_cases h : j < 12
  · exact (by decide : ∀ j, j < 12 → ∀ d ∈ s18Dep j, d ∈ s18Anc j) j h d hd
  · rw [s18Dep_out (by omega)] at hd
    cases hd
set_option maxRecDepth 100000 in
set_option maxHeartbeats 16000000 in
theorem same18_walk (c1 nx1 : Int) (dO1 iO1 cO1 wO1 : Option Addr) (dn1 dc1 im1 ic1 cn1 cc1 wn1 wc1 : Nat) (df1 : Nat → Pr) (itf1 : Nat → It) (clf1 : Nat → Cl) (waf1 : Nat → Wa) (c2 nx2 : Int) (dO2 iO2 cO2 wO2 : Option Addr) (dn2 dc2 im2 ic2 cn2 cc2 wn2 wc2 : Nat) (df2 : Nat → Pr) (itf2 : Nat → It) (clf2 : Nat → Cl) (waf2 : Nat → Wa) (w : World) (r : Bool) (hsm : dn1 ≤ 15 ∧ im1 ≤ 170 ∧ cn1 ≤ 400 ∧ wn1 ≤ 200)
    (hr : r = true ↔ (c1 = c2 ∧ nx1 = nx2 ∧ dn1 = dn2 ∧ im1 = im2 ∧ cn1 = cn2 ∧ wn1 = wn2 ∧ (∀ k, k < dn1 → sameP (df1 k) (df2 k) = true) ∧ (∀ k, k < im1 → itf1 k = itf2 k) ∧ (∀ k, k < cn1 → clf1 k = clf2 k) ∧ ∀ k, k < wn1 → waf1 k = waf2 k))
    (hd1 : RowA (fun x : Pr => x.cs) 4 w dO1 dn1 df1) (hd2 : RowA (fun x : Pr => x.cs) 4 w dO2 dn2 df2) (hi1 : RowA itC 8 w iO1 im1 itf1) (hi2 : RowA itC 8 w iO2 im2 itf2) (hv1 : RowA clC 5 w cO1 cn1 clf1) (hv2 : RowA clC 5 w cO2 cn2 clf2) (hw1 : RowA waC 7 w wO1 wn1 waf1) (hw2 : RowA waC 7 w wO2 wn2 waf2)
    (SM : ∀ k W, k < dn1 → k < dn2 → Below w.heap.size w W → Calls Tryz.prog 34 #[.agg (df1 k).cs, .agg (df2 k).cs] W fun e w' => e = .returned (.bool (sameP (df1 k) (df2 k))) ∧ Below W.heap.size W w') :
    Calls Tryz.prog 14 #[.agg #[.int .i64 c1, .int .i64 nx1, .slice dO1 dn1 dc1, .slice iO1 im1 ic1, .slice cO1 cn1 cc1, .slice wO1 wn1 wc1], .agg #[.int .i64 c2, .int .i64 nx2, .slice dO2 dn2 dc2, .slice iO2 im2 ic2, .slice cO2 cn2 cc2, .slice wO2 wn2 wc2]] w fun e w' => e = .returned (.bool r) ∧ Below w.heap.size w w' := by
  obtain ⟨s1, s2, s3, s4⟩ := hsm
  have HR := Lib.hid hr
  have HD1 := Lib.hid hd1
  have HD2 := Lib.hid hd2
  have HI1 := Lib.hid hi1
  have HI2 := Lib.hid hi2
  have HV1 := Lib.hid hv1
  have HV2 := Lib.hid hv2
  have HW1 := Lib.hid hw1
  have HW2 := Lib.hid hw2
  have SM := Lib.hid SM
  have hb0 : Below w.heap.size w ((w.alloc (.cells #[.int .i64 c1, .int .i64 nx1, .slice dO1 dn1 dc1, .slice iO1 im1 ic1, .slice cO1 cn1 cc1, .slice wO1 wn1 wc1] 27)).alloc (.cells #[.int .i64 c2, .int .i64 nx2, .slice dO2 dn2 dc2, .slice iO2 im2 ic2, .slice cO2 cn2 cc2, .slice wO2 wn2 wc2] 27)) := ((Below.refl _ _).alloc (Nat.le_refl _) _).alloc (by simp) _
  have HB0 := Lib.hid hb0
  clear hr hd1 hd2 hi1 hi2 hv1 hv2 hw1 hw2 hb0
  by_cases hc : c1 = c2
  case neg =>
    have q1 : (c1 != c2) = true := by simp; omega
    have HF : Hid (false = r) := Lib.hid (by cases hr : r; rfl; exact absurd (HR.out.1 hr).1 hc)
    clear hc
    go_enter Tryz.func14, Tryz.ntmps14
    go_wp2
    go_ret
    exact ⟨ret_bool HF.out, HB0.out⟩
  subst hc
  by_cases hnx : nx1 = nx2
  case neg =>
    have q1 : (nx1 != nx2) = true := by simp; omega
    have HF : Hid (false = r) := Lib.hid (by cases hr : r; rfl; exact absurd (HR.out.1 hr).2.1 hnx)
    clear hnx
    go_enter Tryz.func14, Tryz.ntmps14
    go_wp2
    go_ret
    exact ⟨ret_bool HF.out, HB0.out⟩
  subst hnx
  by_cases hdn : dn1 = dn2
  case neg =>
    have q1 : ((dn1 : Int) != (dn2 : Int)) = true := by simp; omega
    have HF : Hid (false = r) := Lib.hid (by cases hr : r; rfl; exact absurd (HR.out.1 hr).2.2.1 hdn)
    clear hdn
    go_enter Tryz.func14, Tryz.ntmps14
    go_wp2
    go_ret
    exact ⟨ret_bool HF.out, HB0.out⟩
  subst hdn
  by_cases him : im1 = im2
  case neg =>
    have q1 : ((im1 : Int) != (im2 : Int)) = true := by simp; omega
    have HF : Hid (false = r) := Lib.hid (by cases hr : r; rfl; exact absurd (HR.out.1 hr).2.2.2.1 him)
    clear him
    go_enter Tryz.func14, Tryz.ntmps14
    go_wp2
    go_ret
    exact ⟨ret_bool HF.out, HB0.out⟩
  subst him
  by_cases hcn : cn1 = cn2
  case neg =>
    have q1 : ((cn1 : Int) != (cn2 : Int)) = true := by simp; omega
    have HF : Hid (false = r) := Lib.hid (by cases hr : r; rfl; exact absurd (HR.out.1 hr).2.2.2.2.1 hcn)
    clear hcn
    go_enter Tryz.func14, Tryz.ntmps14
    go_wp2
    go_ret
    exact ⟨ret_bool HF.out, HB0.out⟩
  subst hcn
  by_cases hwn : wn1 = wn2
  case neg =>
    have q1 : ((wn1 : Int) != (wn2 : Int)) = true := by simp; omega
    have HF : Hid (false = r) := Lib.hid (by cases hr : r; rfl; exact absurd (HR.out.1 hr).2.2.2.2.2.1 hwn)
    clear hwn
    go_enter Tryz.func14, Tryz.ntmps14
    go_wp2
    go_ret
    exact ⟨ret_bool HF.out, HB0.out⟩
  subst hwn
  go_enter Tryz.func14, Tryz.ntmps14
  go_wp2
  -- the world with the two boxes, behind a name
  obtain ⟨W2, hW2⟩ : ∃ W2 : World, W2 = ((w.alloc (.cells #[.int .i64 c1, .int .i64 nx1, .slice dO1 dn1 dc1, .slice iO1 im1 ic1, .slice cO1 cn1 cc1, .slice wO1 wn1 wc1] 27)).alloc (.cells #[.int .i64 c1, .int .i64 nx1, .slice dO2 dn1 dc2, .slice iO2 im1 ic2, .slice cO2 cn1 cc2, .slice wO2 wn1 wc2] 27)) := ⟨_, rfl⟩
  have hC1 : ∀ W, Below W2.heap.size W2 W → ∀ r u, (#[.int .i64 c1, .int .i64 nx1, .slice dO1 dn1 dc1, .slice iO1 im1 ic1, .slice cO1 cn1 cc1, .slice wO1 wn1 wc1] : Array Value)[r]? = some u → W.cell? ⟨w.heap.size, r, none⟩ = some u := fun W hb r u hr => by
    have hlt : w.heap.size < W2.heap.size := by rw [hW2]; simp; omega
    rw [hb.cell (p := ⟨w.heap.size, r, none⟩) hlt, hW2]
    have h2 : ((w.alloc (.cells #[.int .i64 c1, .int .i64 nx1, .slice dO1 dn1 dc1, .slice iO1 im1 ic1, .slice cO1 cn1 cc1, .slice wO1 wn1 wc1] 27)).alloc (.cells #[.int .i64 c1, .int .i64 nx1, .slice dO2 dn1 dc2, .slice iO2 im1 ic2, .slice cO2 cn1 cc2, .slice wO2 wn1 wc2] 27)).heap[w.heap.size]? = some (.cells #[.int .i64 c1, .int .i64 nx1, .slice dO1 dn1 dc1, .slice iO1 im1 ic1, .slice cO1 cn1 cc1, .slice wO1 wn1 wc1] 27 (0, 0)) := by
      rw [Below.heap_alloc _ _ _ (by simp)]
      exact heap_alloc_new w _
    rw [cell_of_row _ _ r _ _ (0, 0) h2]
    exact hr
  have hC2 : ∀ W, Below W2.heap.size W2 W → ∀ r u, (#[.int .i64 c1, .int .i64 nx1, .slice dO2 dn1 dc2, .slice iO2 im1 ic2, .slice cO2 cn1 cc2, .slice wO2 wn1 wc2] : Array Value)[r]? = some u → W.cell? ⟨w.heap.size + 1, r, none⟩ = some u := fun W hb r u hr => by
    have hlt : w.heap.size + 1 < W2.heap.size := by rw [hW2]; simp
    rw [hb.cell (p := ⟨w.heap.size + 1, r, none⟩) hlt, hW2]
    have h2 : ((w.alloc (.cells #[.int .i64 c1, .int .i64 nx1, .slice dO1 dn1 dc1, .slice iO1 im1 ic1, .slice cO1 cn1 cc1, .slice wO1 wn1 wc1] 27)).alloc (.cells #[.int .i64 c1, .int .i64 nx1, .slice dO2 dn1 dc2, .slice iO2 im1 ic2, .slice cO2 cn1 cc2, .slice wO2 wn1 wc2] 27)).heap[w.heap.size + 1]? = some (.cells #[.int .i64 c1, .int .i64 nx1, .slice dO2 dn1 dc2, .slice iO2 im1 ic2, .slice cO2 cn1 cc2, .slice wO2 wn1 wc2] 27 (0, 0)) := by
      have := heap_alloc_new (w.alloc (.cells #[.int .i64 c1, .int .i64 nx1, .slice dO1 dn1 dc1, .slice iO1 im1 ic1, .slice cO1 cn1 cc1, .slice wO1 wn1 wc1] 27)) (.cells #[.int .i64 c1, .int .i64 nx1, .slice dO2 dn1 dc2, .slice iO2 im1 ic2, .slice cO2 cn1 cc2, .slice wO2 wn1 wc2] 27)
      simpa using this
    rw [cell_of_row _ _ r _ _ (0, 0) h2]
    exact hr
  have HC1 := Lib.hid hC1
  have HC2 := Lib.hid hC2
  have HBW : Hid (Below w.heap.size w W2) := Lib.hid (by rw [hW2]; exact HB0.out)
  have HLE : Hid (w.heap.size ≤ W2.heap.size) := Lib.hid HBW.out.size
  rw [← hW2]
  clear hC1 hC2 hW2 HB0
  go_loopg [5] dn1 (fun g N wr => ∃ j : Nat, j + g = dn1 ∧ N = .int .i64 j ∧ Hid (∀ k, k < j → sameP (df1 k) (df2 k) = true) ∧ Hid (Below W2.heap.size W2 wr))
  case atStart => exact ⟨0, by omega, rfl, Lib.hid (fun k hk => by omega), Lib.hid (Below.refl _ _)⟩
  case round =>
    obtain ⟨j, hj, rfl, HK, HB⟩ := hrel
    have k1 := HC1.out wr HB.out 2 _ rfl
    have k2 := HC2.out wr HB.out 2 _ rfl
    by_cases hlt : j < dn1
    · have hbw := HBW.out.trans (HB.out.mono HLE.out)
      obtain ⟨b1, off1, rfl, hbb1, hca⟩ := (HD1.out.below hbw) j hlt
      obtain ⟨b2, off2, rfl, hbb2, hcb⟩ := (HD2.out.below hbw) j hlt
      have i1 : (j : Int) < (dn1 : Int) := by omega
      have i2 : (0 : Int) ≤ (j : Int) := by omega
      have SMJ := Lib.hid (fun W (hb : Below wr.heap.size wr W) => SM.out j W hlt hlt (hbw.trans (hb.mono hbw.size)))
      obtain ⟨x, hx⟩ : ∃ x, df1 j = x := ⟨_, rfl⟩
      obtain ⟨y, hy⟩ : ∃ x, df2 j = x := ⟨_, rfl⟩
      rw [hx] at hca SMJ
      rw [hy] at hcb SMJ
      obtain ⟨q, hq⟩ : ∃ q, sameP x y = q := ⟨_, rfl⟩
      rw [hq] at SMJ
      have HQ : Hid (sameP (df1 j) (df2 j) = q) := Lib.hid (by rw [hx, hy]; exact hq)
      have HCA : Hid (∀ W, Below wr.heap.size wr W → ∀ r u, x.cs[r]? = some u → W.cell? ⟨b1, off1 + j * 4 + r, none⟩ = some u) := Lib.hid (fun W hb r u hr => by rw [hb.cell (p := ⟨b1, off1 + j * 4 + r, none⟩) hbb1]; exact hca r u hr)
      have HCB : Hid (∀ W, Below wr.heap.size wr W → ∀ r u, y.cs[r]? = some u → W.cell? ⟨b2, off2 + j * 4 + r, none⟩ = some u) := Lib.hid (fun W hb r u hr => by rw [hb.cell (p := ⟨b2, off2 + j * 4 + r, none⟩) hbb2]; exact hcb r u hr)
      clear hca hcb hx hy hq hbw
      go_upto_region 6 with fail
      refine wp_region_asrt (by kernel_rfl) (Below wr.heap.size wr) (s18F j dn1 dc1 dn1 dc2 w.heap.size (some ⟨b1, off1, none⟩) (some ⟨b2, off2, none⟩) (.pointer (some ⟨b1, off1 + j * 4, none⟩)) (.pointer (some ⟨b2, off2 + j * 4, none⟩)) x.cs y.cs q) s18Dep s18Need s18Anc s18Kill 12 [some 64, some 65, some 66, some 67, some 68, some 69, some 70, some 71, some 72, some 73, some 74, some 75] rfl rfl (by kernel_rfl) s18Dep_anc (Below.refl _ _).drew (fun j h => s18Anc_out h) (fun j h => by
          match j, h with
          | _ + 12, _ => trivial) (fun j h => s18Dep_out h) ⟨?_, ?_, ?_, ?_, ?_, ?_, ?_, ?_, ?_, ?_, ?_, ?_, trivial⟩ ?_
      · refine Step.mk (oi := _) rfl [] (fun cs b h => by cases h) (by kernel_rfl) (fun vs W hI hA => ?_)
        simp only [List.map]
        simp only [putR]
        refine SOp.val (v := .pointer (some ⟨w.heap.size, 2, none⟩)) (w' := W) (by kernel_rfl) (by go_simp) ⟨hI, upd_self _ _ _, fun _ _ _ _ _ h => h⟩
      · refine Step.mk (oi := _) rfl [(64, 0)] (fun cs b h => by cases h) (by kernel_rfl) (fun vs W hI hA => ?_)
        simp only [List.map]
        have h0 : vs 0 = .pointer (some ⟨w.heap.size, 2, none⟩) := hA 0 (by decide)
        rw [h0]
        have c0 := HC1.out W (HB.out.trans (hI.mono HB.out.size)) 2 _ rfl
        simp only [putR, Act.put, List.setIfInBounds_toArray, List.set_cons_zero, List.set_cons_succ]
        refine SOp.val (v := .slice (some ⟨b1, off1, none⟩) dn1 dc1) (w' := W) (by kernel_rfl) (by go_simp) ⟨hI, upd_self _ _ _, fun _ _ _ _ _ h => h⟩
      · refine Step.mk (oi := _) rfl [] (fun cs b h => by cases h) (by kernel_rfl) (fun vs W hI hA => ?_)
        simp only [List.map]
        simp only [putR]
        refine SOp.val (v := .int .i64 j) (w' := W) (by kernel_rfl) (by go_simp) ⟨hI, upd_self _ _ _, fun _ _ _ _ _ h => h⟩
      · refine Step.mk (oi := _) rfl [(65, 1), (66, 2)] (fun cs b h => by cases h) (by kernel_rfl) (fun vs W hI hA => ?_)
        simp only [List.map]
        have h1 : vs 1 = .slice (some ⟨b1, off1, none⟩) dn1 dc1 := hA 1 (by decide)
        have h2 : vs 2 = .int .i64 j := hA 2 (by decide)
        rw [h1, h2]
        simp only [putR, Act.put, List.setIfInBounds_toArray, List.set_cons_zero, List.set_cons_succ]
        refine SOp.val (v := .pointer (some ⟨b1, off1 + j * 4, none⟩)) (w' := W) (by kernel_rfl) (by go_simp) ⟨hI, upd_self _ _ _, fun _ _ _ _ _ h => h⟩
      · refine Step.mk (oi := _) rfl [(67, 3)] (fun cs b h => by cases h) (by kernel_rfl) (fun vs W hI hA => ?_)
        simp only [List.map]
        have h3 : vs 3 = .pointer (some ⟨b1, off1 + j * 4, none⟩) := hA 3 (by decide)
        rw [h3]
        have e0 := HCA.out W hI 0 _ rfl
        rw [Nat.add_zero] at e0
        have e1 := HCA.out W hI 1 _ rfl
        have e2 := HCA.out W hI 2 _ rfl
        have e3 := HCA.out W hI 3 _ rfl
        simp only [putR, Act.put, List.setIfInBounds_toArray, List.set_cons_zero, List.set_cons_succ]
        refine SOp.val (v := .agg x.cs) (w' := W) (by kernel_rfl) (by go_simp) ⟨hI, upd_self _ _ _, fun _ _ _ _ _ h => h⟩
      · refine Step.mk (oi := _) rfl [] (fun cs b h => by cases h) (by kernel_rfl) (fun vs W hI hA => ?_)
        simp only [List.map]
        simp only [putR]
        refine SOp.val (v := .pointer (some ⟨w.heap.size + 1, 2, none⟩)) (w' := W) (by kernel_rfl) (by go_simp) ⟨hI, upd_self _ _ _, fun _ _ _ _ _ h => h⟩
      · refine Step.mk (oi := _) rfl [(69, 5)] (fun cs b h => by cases h) (by kernel_rfl) (fun vs W hI hA => ?_)
        simp only [List.map]
        have h5 : vs 5 = .pointer (some ⟨w.heap.size + 1, 2, none⟩) := hA 5 (by decide)
        rw [h5]
        have c0 := HC2.out W (HB.out.trans (hI.mono HB.out.size)) 2 _ rfl
        simp only [putR, Act.put, List.setIfInBounds_toArray, List.set_cons_zero, List.set_cons_succ]
        refine SOp.val (v := .slice (some ⟨b2, off2, none⟩) dn1 dc2) (w' := W) (by kernel_rfl) (by go_simp) ⟨hI, upd_self _ _ _, fun _ _ _ _ _ h => h⟩
      · refine Step.mk (oi := _) rfl [] (fun cs b h => by cases h) (by kernel_rfl) (fun vs W hI hA => ?_)
        simp only [List.map]
        simp only [putR]
        refine SOp.val (v := .int .i64 j) (w' := W) (by kernel_rfl) (by go_simp) ⟨hI, upd_self _ _ _, fun _ _ _ _ _ h => h⟩
      · refine Step.mk (oi := _) rfl [(70, 6), (71, 7)] (fun cs b h => by cases h) (by kernel_rfl) (fun vs W hI hA => ?_)
        simp only [List.map]
        have h6 : vs 6 = .slice (some ⟨b2, off2, none⟩) dn1 dc2 := hA 6 (by decide)
        have h7 : vs 7 = .int .i64 j := hA 7 (by decide)
        rw [h6, h7]
        simp only [putR, Act.put, List.setIfInBounds_toArray, List.set_cons_zero, List.set_cons_succ]
        refine SOp.val (v := .pointer (some ⟨b2, off2 + j * 4, none⟩)) (w' := W) (by kernel_rfl) (by go_simp) ⟨hI, upd_self _ _ _, fun _ _ _ _ _ h => h⟩
      · refine Step.mk (oi := _) rfl [(72, 8)] (fun cs b h => by cases h) (by kernel_rfl) (fun vs W hI hA => ?_)
        simp only [List.map]
        have h8 : vs 8 = .pointer (some ⟨b2, off2 + j * 4, none⟩) := hA 8 (by decide)
        rw [h8]
        have e0 := HCB.out W hI 0 _ rfl
        rw [Nat.add_zero] at e0
        have e1 := HCB.out W hI 1 _ rfl
        have e2 := HCB.out W hI 2 _ rfl
        have e3 := HCB.out W hI 3 _ rfl
        simp only [putR, Act.put, List.setIfInBounds_toArray, List.set_cons_zero, List.set_cons_succ]
        refine SOp.val (v := .agg y.cs) (w' := W) (by kernel_rfl) (by go_simp) ⟨hI, upd_self _ _ _, fun _ _ _ _ _ h => h⟩
      · refine Step.mk (oi := _) rfl [(68, 4), (73, 9)] (fun cs b h => by cases h) (by kernel_rfl) (fun vs W hI hA => ?_)
        simp only [List.map]
        have h4 : vs 4 = .agg x.cs := hA 4 (by decide)
        have h9 : vs 9 = .agg y.cs := hA 9 (by decide)
        rw [h4, h9]
        simp only [putR, Act.put, List.setIfInBounds_toArray, List.set_cons_zero, List.set_cons_succ]
        refine SOp.enter (f := 34) (args := #[.agg x.cs, .agg y.cs]) (by kernel_rfl) (by go_simp) ((SMJ.out W hI).mono ?_)
        rintro e w3 ⟨rfl, hb⟩
        exact ⟨.bool q, rfl, hI.trans (hb.mono hI.size), upd_self _ _ _, fun _ _ _ _ _ h => s18F_mono hb h⟩
      · refine Step.mk (oi := _) rfl [(74, 10)] (fun cs b h => by cases h) (by kernel_rfl) (fun vs W hI hA => ?_)
        simp only [List.map]
        have h10 : vs 10 = .bool q := hA 10 (by decide)
        rw [h10]
        simp only [putR, Act.put, List.setIfInBounds_toArray, List.set_cons_zero, List.set_cons_succ]
        refine SOp.val (v := .bool (!q)) (w' := W) (by kernel_rfl) (by go_simp) ⟨hI, upd_self _ _ _, fun _ _ _ _ _ h => h⟩
      · intro vs V hI hφ
        have q11 : vs 11 = .bool (!q) := hφ 11 (fun k _ => by rfl)
        clear hφ
        simp only [putAll, Act.put, List.setIfInBounds_toArray, List.set_cons_zero, List.set_cons_succ]
        rw [q11]
        have HB5 : Hid (Below W2.heap.size W2 V) := Lib.hid (HB.out.trans (hI.mono HB.out.size))
        clear hI q11
        cases q
        · have HF : Hid (false = r) := Lib.hid (by cases hr : r; rfl; exact absurd ((HR.out.1 hr).2.2.2.2.2.2.1 j hlt) (by rw [HQ.out]; decide))
          go_wp2
          go_ret
          exact ⟨ret_bool HF.out, HBW.out.trans (HB5.out.mono HLE.out)⟩
        · have HK2 : Hid (∀ k, k < j + 1 → sameP (df1 k) (df2 k) = true) := Lib.hid (fun k hk => by
            by_cases e : k = j
            · subst e; exact HQ.out
            · exact HK.out k (by omega))
          go_wp2
          go_roundg (dn1 - (j + 1))
          case measure => omega
          case rel => exact ⟨j + 1, by omega, by go_num, HK2, HB5⟩
    · obtain rfl : j = dn1 := by omega
      have HK0 := HK
      have HB10 := HB
      clear HK k2
      go_wp2
      go_loopg [6] im1 (fun g N wr => ∃ j : Nat, j + g = im1 ∧ N = .int .i64 j ∧ Hid (∀ k, k < j → itf1 k = itf2 k) ∧ Hid (Below W2.heap.size W2 wr))
      case atStart => exact ⟨0, by omega, rfl, Lib.hid (fun k hk => by omega), HB10⟩
      case round =>
        obtain ⟨j, hj, rfl, HK, HB⟩ := hrel
        have k1 := HC1.out wr HB.out 3 _ rfl
        have k2 := HC2.out wr HB.out 3 _ rfl
        by_cases hlt : j < im1
        · have hbw := HBW.out.trans (HB.out.mono HLE.out)
          obtain ⟨b1, off1, rfl, hbb1, hca⟩ := (HI1.out.below hbw) j hlt
          obtain ⟨b2, off2, rfl, hbb2, hcb⟩ := (HI2.out.below hbw) j hlt
          have i1 : (j : Int) < (im1 : Int) := by omega
          have i2 : (0 : Int) ≤ (j : Int) := by omega
          obtain ⟨x, hx⟩ : ∃ x, itf1 j = x := ⟨_, rfl⟩
          obtain ⟨y, hy⟩ : ∃ x, itf2 j = x := ⟨_, rfl⟩
          rw [hx] at hca
          rw [hy] at hcb
          have HX := Lib.hid hx
          have HY := Lib.hid hy
          have HBB : Hid (Below w.heap.size w wr) := Lib.hid hbw
          have d0 := hca 0 _ rfl
          rw [Nat.add_zero] at d0
          have e0 := hcb 0 _ rfl
          rw [Nat.add_zero] at e0
          have d1 := hca 1 _ rfl
          have e1 := hcb 1 _ rfl
          have d2 := hca 2 _ rfl
          have e2 := hcb 2 _ rfl
          have d3 := hca 3 _ rfl
          have e3 := hcb 3 _ rfl
          have d4 := hca 4 _ rfl
          have e4 := hcb 4 _ rfl
          have d5 := hca 5 _ rfl
          have e5 := hcb 5 _ rfl
          have d6 := hca 6 _ rfl
          have e6 := hcb 6 _ rfl
          have d7 := hca 7 _ rfl
          have e7 := hcb 7 _ rfl
          clear hca hcb hx hy hbw
          obtain ⟨x_id, x_up, x_is, x_proc, x_node, x_frm, x_wait, x_code⟩ := x
          obtain ⟨y_id, y_up, y_is, y_proc, y_node, y_frm, y_wait, y_code⟩ := y
          by_cases hq : x_id = y_id ∧ x_up = y_up ∧ x_is = y_is ∧ x_proc = y_proc ∧ x_node = y_node ∧ x_frm = y_frm ∧ x_wait = y_wait ∧ x_code = y_code
          · obtain ⟨rfl, rfl, rfl, rfl, rfl, rfl, rfl, rfl⟩ := hq
            have HK2 : Hid (∀ k, k < j + 1 → itf1 k = itf2 k) := Lib.hid (fun k hk => by
              by_cases e : k = j
              · subst e; rw [HX.out, HY.out]
              · exact HK.out k (by omega))
            go_wp2
            go_quiet (fail)
            go_wp2
            go_roundg (im1 - (j + 1))
            case measure => omega
            case rel => exact ⟨j + 1, by omega, by go_num, HK2, Lib.hid (HB.out.trans (Below.drewN _ _))⟩
          · have HF : Hid (false = r) := Lib.hid (by
              cases hr : r
              · rfl
              · have := (HR.out.1 hr).2.2.2.2.2.2.2.1 j hlt
                rw [HX.out, HY.out] at this
                simp only [It.mk.injEq] at this
                exact absurd this hq)
            have q' : (x_id ≠ y_id) ∨ (x_id = y_id ∧ x_up ≠ y_up) ∨ (x_id = y_id ∧ x_up = y_up ∧ x_is ≠ y_is) ∨ (x_id = y_id ∧ x_up = y_up ∧ x_is = y_is ∧ x_proc ≠ y_proc) ∨ (x_id = y_id ∧ x_up = y_up ∧ x_is = y_is ∧ x_proc = y_proc ∧ x_node ≠ y_node) ∨ (x_id = y_id ∧ x_up = y_up ∧ x_is = y_is ∧ x_proc = y_proc ∧ x_node = y_node ∧ x_frm ≠ y_frm) ∨ (x_id = y_id ∧ x_up = y_up ∧ x_is = y_is ∧ x_proc = y_proc ∧ x_node = y_node ∧ x_frm = y_frm ∧ x_wait ≠ y_wait) ∨ (x_id = y_id ∧ x_up = y_up ∧ x_is = y_is ∧ x_proc = y_proc ∧ x_node = y_node ∧ x_frm = y_frm ∧ x_wait = y_wait ∧ x_code ≠ y_code) := by
              rcases Classical.em (x_id = y_id) with e0 | e0
              case inr => exact .inl e0
              rcases Classical.em (x_up = y_up) with e1 | e1
              case inr => exact .inr (.inl ⟨e0, e1⟩)
              rcases Classical.em (x_is = y_is) with e2 | e2
              case inr => exact .inr (.inr (.inl ⟨e0, e1, e2⟩))
              rcases Classical.em (x_proc = y_proc) with e3 | e3
              case inr => exact .inr (.inr (.inr (.inl ⟨e0, e1, e2, e3⟩)))
              rcases Classical.em (x_node = y_node) with e4 | e4
              case inr => exact .inr (.inr (.inr (.inr (.inl ⟨e0, e1, e2, e3, e4⟩))))
              rcases Classical.em (x_frm = y_frm) with e5 | e5
              case inr => exact .inr (.inr (.inr (.inr (.inr (.inl ⟨e0, e1, e2, e3, e4, e5⟩)))))
              rcases Classical.em (x_wait = y_wait) with e6 | e6
              case inr => exact .inr (.inr (.inr (.inr (.inr (.inr (.inl ⟨e0, e1, e2, e3, e4, e5, e6⟩))))))
              rcases Classical.em (x_code = y_code) with e7 | e7
              case inr => exact .inr (.inr (.inr (.inr (.inr (.inr (.inr (⟨e0, e1, e2, e3, e4, e5, e6, e7⟩)))))))
              exact absurd ⟨e0, e1, e2, e3, e4, e5, e6, e7⟩ hq
            clear hq
            rcases q' with e | ⟨rfl, e⟩ | ⟨rfl, rfl, e⟩ | ⟨rfl, rfl, rfl, e⟩ | ⟨rfl, rfl, rfl, rfl, e⟩ | ⟨rfl, rfl, rfl, rfl, rfl, e⟩ | ⟨rfl, rfl, rfl, rfl, rfl, rfl, e⟩ | ⟨rfl, rfl, rfl, rfl, rfl, rfl, rfl, e⟩
            · have n2 : (x_id == y_id) = false := by simpa using e
              go_wp2
              go_quiet (fail)
              go_wp2
              go_ret
              exact ⟨ret_bool HF.out, HBB.out.trans (Below.drewN _ _)⟩
            · have n2 : (x_up == y_up) = false := by simpa using e
              go_wp2
              go_quiet (fail)
              go_wp2
              go_ret
              exact ⟨ret_bool HF.out, HBB.out.trans (Below.drewN _ _)⟩
            · have n1 : ¬ (x_is : Int) = y_is := by omega
              have n2 : ((x_is : Int) == y_is) = false := by simpa using n1
              go_wp2
              go_quiet (fail)
              go_wp2
              go_ret
              exact ⟨ret_bool HF.out, HBB.out.trans (Below.drewN _ _)⟩
            · have n1 := toList_ne e
              have n2 := toList_beq e
              clear e
              go_wp2
              go_quiet (fail)
              go_wp2
              go_ret
              exact ⟨ret_bool HF.out, HBB.out.trans (Below.drewN _ _)⟩
            · have n2 : (x_node == y_node) = false := by simpa using e
              go_wp2
              go_quiet (fail)
              go_wp2
              go_ret
              exact ⟨ret_bool HF.out, HBB.out.trans (Below.drewN _ _)⟩
            · have n2 : (x_frm == y_frm) = false := by simpa using e
              go_wp2
              go_quiet (fail)
              go_wp2
              go_ret
              exact ⟨ret_bool HF.out, HBB.out.trans (Below.drewN _ _)⟩
            · have n1 : ¬ (x_wait : Int) = y_wait := by omega
              have n2 : ((x_wait : Int) == y_wait) = false := by simpa using n1
              go_wp2
              go_quiet (fail)
              go_wp2
              go_ret
              exact ⟨ret_bool HF.out, HBB.out.trans (Below.drewN _ _)⟩
            · have n1 := toList_ne e
              have n2 := toList_beq e
              clear e
              go_wp2
              go_quiet (fail)
              go_wp2
              go_ret
              exact ⟨ret_bool HF.out, HBB.out.trans (Below.drewN _ _)⟩
        · obtain rfl : j = im1 := by omega
          have HK1 := HK
          have HB11 := HB
          clear HK k2
          go_wp2
          go_loopg [7] cn1 (fun g N wr => ∃ j : Nat, j + g = cn1 ∧ N = .int .i64 j ∧ Hid (∀ k, k < j → clf1 k = clf2 k) ∧ Hid (Below W2.heap.size W2 wr))
          case atStart => exact ⟨0, by omega, rfl, Lib.hid (fun k hk => by omega), HB11⟩
          case round =>
            obtain ⟨j, hj, rfl, HK, HB⟩ := hrel
            have k1 := HC1.out wr HB.out 4 _ rfl
            have k2 := HC2.out wr HB.out 4 _ rfl
            by_cases hlt : j < cn1
            · have hbw := HBW.out.trans (HB.out.mono HLE.out)
              obtain ⟨b1, off1, rfl, hbb1, hca⟩ := (HV1.out.below hbw) j hlt
              obtain ⟨b2, off2, rfl, hbb2, hcb⟩ := (HV2.out.below hbw) j hlt
              have i1 : (j : Int) < (cn1 : Int) := by omega
              have i2 : (0 : Int) ≤ (j : Int) := by omega
              obtain ⟨x, hx⟩ : ∃ x, clf1 j = x := ⟨_, rfl⟩
              obtain ⟨y, hy⟩ : ∃ x, clf2 j = x := ⟨_, rfl⟩
              rw [hx] at hca
              rw [hy] at hcb
              have HX := Lib.hid hx
              have HY := Lib.hid hy
              have HBB : Hid (Below w.heap.size w wr) := Lib.hid hbw
              have d0 := hca 0 _ rfl
              rw [Nat.add_zero] at d0
              have e0 := hcb 0 _ rfl
              rw [Nat.add_zero] at e0
              have d1 := hca 1 _ rfl
              have e1 := hcb 1 _ rfl
              have d2 := hca 2 _ rfl
              have e2 := hcb 2 _ rfl
              have d3 := hca 3 _ rfl
              have e3 := hcb 3 _ rfl
              have d4 := hca 4 _ rfl
              have e4 := hcb 4 _ rfl
              clear hca hcb hx hy hbw
              obtain ⟨x_sc, x_nm, x_k, x_n, x_t⟩ := x
              obtain ⟨y_sc, y_nm, y_k, y_n, y_t⟩ := y
              by_cases hq : x_sc = y_sc ∧ x_nm = y_nm ∧ x_k = y_k ∧ x_n = y_n ∧ x_t = y_t
              · obtain ⟨rfl, rfl, rfl, rfl, rfl⟩ := hq
                have HK2 : Hid (∀ k, k < j + 1 → clf1 k = clf2 k) := Lib.hid (fun k hk => by
                  by_cases e : k = j
                  · subst e; rw [HX.out, HY.out]
                  · exact HK.out k (by omega))
                go_wp2
                go_quiet (fail)
                go_wp2
                go_roundg (cn1 - (j + 1))
                case measure => omega
                case rel => exact ⟨j + 1, by omega, by go_num, HK2, Lib.hid (HB.out.trans (Below.drewN _ _))⟩
              · have HF : Hid (false = r) := Lib.hid (by
                  cases hr : r
                  · rfl
                  · have := (HR.out.1 hr).2.2.2.2.2.2.2.2.1 j hlt
                    rw [HX.out, HY.out] at this
                    simp only [Cl.mk.injEq] at this
                    exact absurd this hq)
                have q' : (x_sc ≠ y_sc) ∨ (x_sc = y_sc ∧ x_nm ≠ y_nm) ∨ (x_sc = y_sc ∧ x_nm = y_nm ∧ x_k ≠ y_k) ∨ (x_sc = y_sc ∧ x_nm = y_nm ∧ x_k = y_k ∧ x_n ≠ y_n) ∨ (x_sc = y_sc ∧ x_nm = y_nm ∧ x_k = y_k ∧ x_n = y_n ∧ x_t ≠ y_t) := by
                  rcases Classical.em (x_sc = y_sc) with e0 | e0
                  case inr => exact .inl e0
                  rcases Classical.em (x_nm = y_nm) with e1 | e1
                  case inr => exact .inr (.inl ⟨e0, e1⟩)
                  rcases Classical.em (x_k = y_k) with e2 | e2
                  case inr => exact .inr (.inr (.inl ⟨e0, e1, e2⟩))
                  rcases Classical.em (x_n = y_n) with e3 | e3
                  case inr => exact .inr (.inr (.inr (.inl ⟨e0, e1, e2, e3⟩)))
                  rcases Classical.em (x_t = y_t) with e4 | e4
                  case inr => exact .inr (.inr (.inr (.inr (⟨e0, e1, e2, e3, e4⟩))))
                  exact absurd ⟨e0, e1, e2, e3, e4⟩ hq
                clear hq
                rcases q' with e | ⟨rfl, e⟩ | ⟨rfl, rfl, e⟩ | ⟨rfl, rfl, rfl, e⟩ | ⟨rfl, rfl, rfl, rfl, e⟩
                · have n2 : (x_sc == y_sc) = false := by simpa using e
                  go_wp2
                  go_quiet (fail)
                  go_wp2
                  go_ret
                  exact ⟨ret_bool HF.out, HBB.out.trans (Below.drewN _ _)⟩
                · have n1 := toList_ne e
                  have n2 := toList_beq e
                  clear e
                  go_wp2
                  go_quiet (fail)
                  go_wp2
                  go_ret
                  exact ⟨ret_bool HF.out, HBB.out.trans (Below.drewN _ _)⟩
                · have n1 : ¬ (x_k : Int) = y_k := by omega
                  have n2 : ((x_k : Int) == y_k) = false := by simpa using n1
                  go_wp2
                  go_quiet (fail)
                  go_wp2
                  go_ret
                  exact ⟨ret_bool HF.out, HBB.out.trans (Below.drewN _ _)⟩
                · have n2 : (x_n == y_n) = false := by simpa using e
                  go_wp2
                  go_quiet (fail)
                  go_wp2
                  go_ret
                  exact ⟨ret_bool HF.out, HBB.out.trans (Below.drewN _ _)⟩
                · have n1 := toList_ne e
                  have n2 := toList_beq e
                  clear e
                  go_wp2
                  go_quiet (fail)
                  go_wp2
                  go_ret
                  exact ⟨ret_bool HF.out, HBB.out.trans (Below.drewN _ _)⟩
            · obtain rfl : j = cn1 := by omega
              have HK2 := HK
              have HB12 := HB
              clear HK k2
              go_wp2
              go_loopg [8] wn1 (fun g N wr => ∃ j : Nat, j + g = wn1 ∧ N = .int .i64 j ∧ Hid (∀ k, k < j → waf1 k = waf2 k) ∧ Hid (Below W2.heap.size W2 wr))
              case atStart => exact ⟨0, by omega, rfl, Lib.hid (fun k hk => by omega), HB12⟩
              case round =>
                obtain ⟨j, hj, rfl, HK, HB⟩ := hrel
                have k1 := HC1.out wr HB.out 5 _ rfl
                have k2 := HC2.out wr HB.out 5 _ rfl
                by_cases hlt : j < wn1
                · have hbw := HBW.out.trans (HB.out.mono HLE.out)
                  obtain ⟨b1, off1, rfl, hbb1, hca⟩ := (HW1.out.below hbw) j hlt
                  obtain ⟨b2, off2, rfl, hbb2, hcb⟩ := (HW2.out.below hbw) j hlt
                  have i1 : (j : Int) < (wn1 : Int) := by omega
                  have i2 : (0 : Int) ≤ (j : Int) := by omega
                  obtain ⟨x, hx⟩ : ∃ x, waf1 j = x := ⟨_, rfl⟩
                  obtain ⟨y, hy⟩ : ∃ x, waf2 j = x := ⟨_, rfl⟩
                  rw [hx] at hca
                  rw [hy] at hcb
                  have HX := Lib.hid hx
                  have HY := Lib.hid hy
                  have HBB : Hid (Below w.heap.size w wr) := Lib.hid hbw
                  have d0 := hca 0 _ rfl
                  rw [Nat.add_zero] at d0
                  have e0 := hcb 0 _ rfl
                  rw [Nat.add_zero] at e0
                  have d1 := hca 1 _ rfl
                  have e1 := hcb 1 _ rfl
                  have d2 := hca 2 _ rfl
                  have e2 := hcb 2 _ rfl
                  have d3 := hca 3 _ rfl
                  have e3 := hcb 3 _ rfl
                  have d4 := hca 4 _ rfl
                  have e4 := hcb 4 _ rfl
                  have d5 := hca 5 _ rfl
                  have e5 := hcb 5 _ rfl
                  have d6 := hca 6 _ rfl
                  have e6 := hcb 6 _ rfl
                  clear hca hcb hx hy hbw
                  obtain ⟨x_id, x_item, x_node, x_ev, x_key, x_due, x_armed⟩ := x
                  obtain ⟨y_id, y_item, y_node, y_ev, y_key, y_due, y_armed⟩ := y
                  by_cases hq : x_id = y_id ∧ x_item = y_item ∧ x_node = y_node ∧ x_ev = y_ev ∧ x_key = y_key ∧ x_due = y_due ∧ x_armed = y_armed
                  · obtain ⟨rfl, rfl, rfl, rfl, rfl, rfl, rfl⟩ := hq
                    have HK2 : Hid (∀ k, k < j + 1 → waf1 k = waf2 k) := Lib.hid (fun k hk => by
                      by_cases e : k = j
                      · subst e; rw [HX.out, HY.out]
                      · exact HK.out k (by omega))
                    go_wp2
                    go_quiet (fail)
                    go_wp2
                    go_roundg (wn1 - (j + 1))
                    case measure => omega
                    case rel => exact ⟨j + 1, by omega, by go_num, HK2, Lib.hid (HB.out.trans (Below.drewN _ _))⟩
                  · have HF : Hid (false = r) := Lib.hid (by
                      cases hr : r
                      · rfl
                      · have := (HR.out.1 hr).2.2.2.2.2.2.2.2.2 j hlt
                        rw [HX.out, HY.out] at this
                        simp only [Wa.mk.injEq] at this
                        exact absurd this hq)
                    have q' : (x_id ≠ y_id) ∨ (x_id = y_id ∧ x_item ≠ y_item) ∨ (x_id = y_id ∧ x_item = y_item ∧ x_node ≠ y_node) ∨ (x_id = y_id ∧ x_item = y_item ∧ x_node = y_node ∧ x_ev ≠ y_ev) ∨ (x_id = y_id ∧ x_item = y_item ∧ x_node = y_node ∧ x_ev = y_ev ∧ x_key ≠ y_key) ∨ (x_id = y_id ∧ x_item = y_item ∧ x_node = y_node ∧ x_ev = y_ev ∧ x_key = y_key ∧ x_due ≠ y_due) ∨ (x_id = y_id ∧ x_item = y_item ∧ x_node = y_node ∧ x_ev = y_ev ∧ x_key = y_key ∧ x_due = y_due ∧ x_armed ≠ y_armed) := by
                      rcases Classical.em (x_id = y_id) with e0 | e0
                      case inr => exact .inl e0
                      rcases Classical.em (x_item = y_item) with e1 | e1
                      case inr => exact .inr (.inl ⟨e0, e1⟩)
                      rcases Classical.em (x_node = y_node) with e2 | e2
                      case inr => exact .inr (.inr (.inl ⟨e0, e1, e2⟩))
                      rcases Classical.em (x_ev = y_ev) with e3 | e3
                      case inr => exact .inr (.inr (.inr (.inl ⟨e0, e1, e2, e3⟩)))
                      rcases Classical.em (x_key = y_key) with e4 | e4
                      case inr => exact .inr (.inr (.inr (.inr (.inl ⟨e0, e1, e2, e3, e4⟩))))
                      rcases Classical.em (x_due = y_due) with e5 | e5
                      case inr => exact .inr (.inr (.inr (.inr (.inr (.inl ⟨e0, e1, e2, e3, e4, e5⟩)))))
                      rcases Classical.em (x_armed = y_armed) with e6 | e6
                      case inr => exact .inr (.inr (.inr (.inr (.inr (.inr (⟨e0, e1, e2, e3, e4, e5, e6⟩))))))
                      exact absurd ⟨e0, e1, e2, e3, e4, e5, e6⟩ hq
                    clear hq
                    rcases q' with e | ⟨rfl, e⟩ | ⟨rfl, rfl, e⟩ | ⟨rfl, rfl, rfl, e⟩ | ⟨rfl, rfl, rfl, rfl, e⟩ | ⟨rfl, rfl, rfl, rfl, rfl, e⟩ | ⟨rfl, rfl, rfl, rfl, rfl, rfl, e⟩
                    · have n2 : (x_id == y_id) = false := by simpa using e
                      go_wp2
                      go_quiet (fail)
                      go_wp2
                      go_ret
                      exact ⟨ret_bool HF.out, HBB.out.trans (Below.drewN _ _)⟩
                    · have n2 : (x_item == y_item) = false := by simpa using e
                      go_wp2
                      go_quiet (fail)
                      go_wp2
                      go_ret
                      exact ⟨ret_bool HF.out, HBB.out.trans (Below.drewN _ _)⟩
                    · have n2 : (x_node == y_node) = false := by simpa using e
                      go_wp2
                      go_quiet (fail)
                      go_wp2
                      go_ret
                      exact ⟨ret_bool HF.out, HBB.out.trans (Below.drewN _ _)⟩
                    · have n1 : ¬ (x_ev : Int) = y_ev := by omega
                      have n2 : ((x_ev : Int) == y_ev) = false := by simpa using n1
                      go_wp2
                      go_quiet (fail)
                      go_wp2
                      go_ret
                      exact ⟨ret_bool HF.out, HBB.out.trans (Below.drewN _ _)⟩
                    · have n1 := toList_ne e
                      have n2 := toList_beq e
                      clear e
                      go_wp2
                      go_quiet (fail)
                      go_wp2
                      go_ret
                      exact ⟨ret_bool HF.out, HBB.out.trans (Below.drewN _ _)⟩
                    · have n2 : (x_due == y_due) = false := by simpa using e
                      go_wp2
                      go_quiet (fail)
                      go_wp2
                      go_ret
                      exact ⟨ret_bool HF.out, HBB.out.trans (Below.drewN _ _)⟩
                    · have n2 : (x_armed == y_armed) = false := by simpa using e
                      go_wp2
                      go_quiet (fail)
                      go_wp2
                      go_ret
                      exact ⟨ret_bool HF.out, HBB.out.trans (Below.drewN _ _)⟩
                · obtain rfl : j = wn1 := by omega
                  have HT : Hid (true = r) := Lib.hid (HR.out.2 ⟨by first | rfl | trivial, by first | rfl | trivial, by first | rfl | trivial, by first | rfl | trivial, by first | rfl | trivial, by first | rfl | trivial, HK0.out, HK1.out, HK2.out, HK.out⟩).symm
                  go_wp2
                  go_ret
                  exact ⟨ret_bool HT.out, HBW.out.trans (HB.out.mono HLE.out)⟩
theorem same18_any (a b : Sm) (w : World) (ha : a.at w) (hb : b.at w) (sa : a.small)
    (SM : ∀ k W, k < a.dn → k < b.dn → Below w.heap.size w W → Calls Tryz.prog 34 #[.agg (a.df k).cs, .agg (b.df k).cs] W fun e w' => e = .returned (.bool (sameP (a.df k) (b.df k))) ∧ Below W.heap.size W w') :
    Calls Tryz.prog 14 #[.agg a.cs, .agg b.cs] w fun e w' => e = .returned (.bool (sameS a.st b.st)) ∧ Below w.heap.size w w' := by
  refine same18_walk a.c a.nx a.dO a.iO a.cO a.wO a.dn a.dc a.im a.ic a.cn a.cc a.wn a.wc a.df a.itf a.clf a.waf b.c b.nx b.dO b.iO b.cO b.wO b.dn b.dc b.im b.ic b.cn b.cc b.wn b.wc b.df b.itf b.clf b.waf w _ ⟨sa.d, sa.i, sa.v, sa.w⟩ ?_ ha.d hb.d ha.i hb.i ha.v hb.v ha.w hb.w SM
  rw [sameS_iff]
  have e : ∀ (h : Nat → Pr) k, (rowL h k).map Pr.pp = rowL (fun j => (h j).pp) k := fun h k => by unfold rowL; rw [List.map_map]; rfl
  rw [e, e, row_eq, row_eq, row_eq, row_eq]
  unfold Sm.st
  simp only [sameP_iff]
  constructor
  · rintro ⟨h1, h2, ⟨h3, h4⟩, ⟨h5, h6⟩, ⟨h7, h8⟩, h9, h10⟩
    exact ⟨h1, h2, h3, h5, h7, h9, h4, h6, h8, h10⟩
  · rintro ⟨h1, h2, h3, h5, h7, h9, h4, h6, h8, h10⟩
    exact ⟨h1, h2, ⟨h3, h4⟩, ⟨h5, h6⟩, ⟨h7, h8⟩, h9, h10⟩
end Go.Proofs.YtjakdbahopbggaaGreatDoor
