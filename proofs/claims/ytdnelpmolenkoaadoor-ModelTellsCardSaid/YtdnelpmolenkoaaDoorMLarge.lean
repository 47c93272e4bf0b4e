/- What the law's large tells. Conditions: lengths are lengths. -/
import Derived.Test.YtdnelpmolenkoaaDoorMData
namespace Go.Proofs.YtdnelpmolenkoaaDoor
open Go.RowKit Go.Ow

/-- a sum of which nothing is to be known -/
theorem wpList_sum {P : Program} {ops : Array Oper} {rest : List Oper} {o : Oper} {a : Act} {w : World} {Q : Exit → Act → World → Prop} (hgd : o.guard = none) (x y : Operand) (T T' : TypeId) (ho : o.op = .binOp .add T x y T')
    (m n : Int) (hx : a.eval x = .int .i64 m) (hy : a.eval y = .int .i64 n) (h : ∀ z : Int, wpList P ops Q rest (a.put o.dst (.int .i64 z)) w) : wpList P ops Q (o :: rest) a w :=
  wpList_plain hgd fun K hK => by
    have e : (execOp a.eval o).run P w = .ok (.value (.int .i64 (IntKind.i64.wrap (m + n)))) w := by
      unfold execOp
      simp only [ho, hx, hy]
      simp [go_sem]
    unfold Oper.wp
    rw [e]
    exact hK _ _ (h _)
/-- some answer; if it is no, these bounds -/
def LargeP (x : Pr) (w : World) (e : Ending) (w' : World) : Prop :=
  ∃ b : Bool, e = .returned (.bool b) ∧ (b = false → x.nn ≤ 100 ∧ x.fn ≤ 200 ∧ x.vm ≤ 50 ∧ x.name.size ≤ 200 ∧ ∀ k, k < x.nn → (x.nf k).m ≤ 50 ∧ (x.nf k).n ≤ 50) ∧ Below w.heap.size w w'
theorem large_yes {x : Pr} {w w' : World} (h : Below w.heap.size w w') : LargeP x w (.returned (.bool true)) w' := ⟨true, rfl, fun h => by simp at h, h⟩
set_option maxRecDepth 100000 in
set_option maxHeartbeats 16000000 in
theorem large_any (x : Pr) (w : World) (h : x.at w) (hx : x.fit) :
    Calls Tryd.prog 9 #[.agg x.cs] w (LargeP x w) := by
  have HB0 := Lib.hid ((Below.refl w.heap.size w).alloc (Nat.le_refl _) (.cells x.cs 30))
  obtain ⟨h1, h2, h3, h4, h5, h6, h7, h8, h9, h10⟩ := hx
  have H3 := Lib.hid h3
  have H4 := Lib.hid h4
  have AT := Lib.hid h
  clear h2 h3 h4 h
  obtain ⟨W0, hW0⟩ : ∃ W, w.alloc (.cells x.cs 30) = W := ⟨_, rfl⟩
  have b2 : W0.cell? ⟨w.heap.size, 2, none⟩ = some (.slice x.no x.nn x.nc) := by rw [← hW0]; simp
  have b3 : W0.cell? ⟨w.heap.size, 3, none⟩ = some (.slice x.fo x.fn x.fc) := by rw [← hW0]; simp
  have hl : w.heap.size < W0.heap.size := by rw [← hW0]; simp
  have HL := Lib.hid hl
  have B2 := Lib.hid b2
  have B3 := Lib.hid b3
  have HW := Lib.hid hW0
  clear b2 b3 hl hW0
  by_cases a1 : 100 < x.nn
  · go_enter Tryd.func9, Tryd.ntmps9
    go_wp2
    go_ret
    exact large_yes HB0.out
  have a1' : x.nn ≤ 100 := by omega
  by_cases a2 : 200 < x.fn
  · go_enter Tryd.func9, Tryd.ntmps9
    go_wp2
    go_ret
    exact large_yes HB0.out
  have a2' : x.fn ≤ 200 := by omega
  by_cases a3 : 50 < x.vm
  · go_enter Tryd.func9, Tryd.ntmps9
    go_wp2
    go_ret
    exact large_yes HB0.out
  have a3' : x.vm ≤ 50 := by omega
  by_cases a4 : 200 < x.name.size
  · go_enter Tryd.func9, Tryd.ntmps9
    go_wp2
    go_ret
    exact large_yes HB0.out
  have a4' : x.name.size ≤ 200 := by omega
  go_enter Tryd.func9, Tryd.ntmps9
  go_wp2
  go_loopw [3] (fun i wr => ∃ k : Nat, k ≤ x.nn ∧ i = .int .i64 k ∧ Hid (∀ j, j < k → (x.nf j).m ≤ 50 ∧ (x.nf j).n ≤ 50) ∧ Below W0.heap.size W0 wr) (fun i _ => x.nn - (intOf i).toNat)
  case atStart => exact ⟨0, Nat.zero_le _, rfl, Lib.hid (fun j hj => absurd hj (by omega)), by rw [← HW.out]; exact Below.refl _ _⟩
  case round =>
    obtain ⟨k, hk, rfl, HK, hB⟩ := hrel
    have HB := Lib.hid hB
    have q2 : wr.cell? ⟨w.heap.size, 2, none⟩ = some (.slice x.no x.nn x.nc) := by rw [hB.cell (p := ⟨w.heap.size, 2, none⟩) HL.out]; exact B2.out
    have q3 : wr.cell? ⟨w.heap.size, 3, none⟩ = some (.slice x.fo x.fn x.fc) := by rw [hB.cell (p := ⟨w.heap.size, 3, none⟩) HL.out]; exact B3.out
    clear hB
    have HBW : Hid (Below w.heap.size w wr) := Lib.hid (below_step (by rw [← HW.out]; exact HB0.out) HB.out)
    by_cases hlt : k < x.nn
    · obtain ⟨b, off, hno, hb, hat, y0, y1, y2, y3, y4, y5, y6, y7, y8, y9, y10⟩ := (AT.out.n.below HBW.out) k hlt
      have HF := Lib.hid (H3.out k)
      obtain ⟨v, hv⟩ : ∃ v, x.nf k = v := ⟨_, rfl⟩
      rw [hv] at y0 y1 y2 y3 y4 y5 y6 y7 y8 y9 y10 HF
      have HV := Lib.hid hv
      rw [hno] at q2
      have hz : ∀ o, (wr.alloc o).cell? ⟨w.heap.size, 2, none⟩ = some (.slice (some ⟨b, off, none⟩) x.nn x.nc) := fun o => by rw [World.cell?_alloc_some _ _ _ (by rw [q2]; rfl)]; exact q2
      have s1 := HF.out.1.1
      have s2 := HF.out.1.2.2.2.2.2.2.2.1
      have s3 := HF.out.1.2.2.2.2.2.2.2.2.1
      have s4 := HF.out.1.2.2.2.2.2.2.2.2.2
      have s5 := HF.out.2.2.2.1
      have s6 := HF.out.2.2.2.2.1
      clear hat hno hv q3
      have HA := Lib.hid ((Below.refl wr.heap.size wr).alloc (Nat.le_refl _) (.cells v.cs 25))
      have HB3 := Lib.hid (below_step HB.out HA.out)
      have HBW3 := Lib.hid (below_step HBW.out HA.out)
      by_cases m1 : v.m ≤ 50
      · by_cases m2 : v.n ≤ 50
        · have HK2 : Hid (∀ j, j < k + 1 → (x.nf j).m ≤ 50 ∧ (x.nf j).n ≤ 50) := Lib.hid (fun j hj => by
            by_cases e : j = k
            · subst e; rw [HV.out]; exact ⟨m1, m2⟩
            · exact HK.out j (by omega))
          go_wp2_with (first | (with_reducible refine wpList_sum (o := ⟨some 46, _, _, _, _, _⟩) rfl _ _ _ _ rfl _ _ rfl rfl ?_; intro z1) | (with_reducible refine wpList_sum (o := ⟨some 50, _, _, _, _, _⟩) rfl _ _ _ _ rfl _ _ rfl rfl ?_; intro z2) | (with_reducible refine wpList_sum (o := ⟨some 54, _, _, _, _, _⟩) rfl _ _ _ _ rfl _ _ rfl rfl ?_; intro z3))
          · go_roundw
            case rel => exact ⟨k + 1, by omega, by go_num, HK2, HB3.out⟩
            case measure => simp [intOf]; omega
          · go_ret
            exact large_yes HBW3.out
        · have m2' : 50 < v.n := by omega
          go_wp2_with (first | (with_reducible refine wpList_sum (o := ⟨some 46, _, _, _, _, _⟩) rfl _ _ _ _ rfl _ _ rfl rfl ?_; intro z1) | (with_reducible refine wpList_sum (o := ⟨some 50, _, _, _, _, _⟩) rfl _ _ _ _ rfl _ _ rfl rfl ?_; intro z2) | (with_reducible refine wpList_sum (o := ⟨some 54, _, _, _, _, _⟩) rfl _ _ _ _ rfl _ _ rfl rfl ?_; intro z3))
          all_goals
            go_ret
            exact large_yes HBW3.out
      · have m1' : 50 < v.m := by omega
        go_wp2_with (first | (with_reducible refine wpList_sum (o := ⟨some 46, _, _, _, _, _⟩) rfl _ _ _ _ rfl _ _ rfl rfl ?_; intro z1) | (with_reducible refine wpList_sum (o := ⟨some 50, _, _, _, _, _⟩) rfl _ _ _ _ rfl _ _ rfl rfl ?_; intro z2) | (with_reducible refine wpList_sum (o := ⟨some 54, _, _, _, _, _⟩) rfl _ _ _ _ rfl _ _ rfl rfl ?_; intro z3))
        all_goals
          go_ret
          exact large_yes HBW3.out
    · obtain rfl : k = x.nn := by omega
      go_wp2
      obtain ⟨wo, rfl⟩ : ∃ wo : World, wo = wr := ⟨_, rfl⟩
      go_loopw [5] (fun i wr => ∃ k : Nat, k ≤ x.fn ∧ i = .int .i64 k ∧ Below W0.heap.size W0 wr) (fun i _ => x.fn - (intOf i).toNat)
      case atStart => exact ⟨0, Nat.zero_le _, rfl, HB.out⟩
      case round =>
        clear q2 q3 HB HBW
        obtain ⟨j, hj, rfl, hB⟩ := hrel
        have HB := Lib.hid hB
        have q3 : wr.cell? ⟨w.heap.size, 3, none⟩ = some (.slice x.fo x.fn x.fc) := by rw [hB.cell (p := ⟨w.heap.size, 3, none⟩) HL.out]; exact B3.out
        clear hB
        have HBW : Hid (Below w.heap.size w wr) := Lib.hid (below_step (by rw [← HW.out]; exact HB0.out) HB.out)
        by_cases hlt : j < x.fn
        · obtain ⟨b, off, hno, hb, y0, y1, y2, y3⟩ := (AT.out.f.below HBW.out) j hlt
          have s1 := (H4.out j).2.2.2.2
          obtain ⟨v, hv⟩ : ∃ v, x.ff j = v := ⟨_, rfl⟩
          rw [hv] at y0 y1 y2 y3 s1
          rw [hno] at q3
          clear hno hv
          by_cases a5 : 300 < v.iff.size
          · go_wp2
            go_ret
            exact large_yes HBW.out
          · have a5' : v.iff.size ≤ 300 := by omega
            go_wp2
            go_roundw
            case rel => exact ⟨j + 1, by omega, by go_num, HB.out⟩
            case measure => simp [intOf]; omega
        · obtain rfl : j = x.fn := by omega
          go_wp2
          go_ret
          exact ⟨false, rfl, fun _ => ⟨a1', a2', a3', a4', HK.out⟩, HBW.out⟩
end Go.Proofs.YtdnelpmolenkoaaDoor
