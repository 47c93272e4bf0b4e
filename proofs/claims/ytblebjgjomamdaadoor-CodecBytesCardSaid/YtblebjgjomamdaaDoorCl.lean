/- callboardlaw15.large answers. Conditions: none. -/
import Derived.Test.YtblebjgjomamdaaDoorMProc
namespace Go.Proofs.YtblebjgjomamdaaDoor
open Go.RowKit Go.Ow

/-- a sum of which nothing is to be known -/
theorem wpList_some {P : Program} {ops : Array Oper} {rest : List Oper} {o : Oper} {a : Act} {w : World} {Q : Exit → Act → World → Prop} (hgd : o.guard = none) (x y : Operand) (T T' : TypeId) (ho : o.op = .binOp .add T x y T')
    (m n : Int) (hx : a.eval x = .int .i64 m) (hy : a.eval y = .int .i64 n) (h : ∀ z : Int, wpList P ops Q rest (a.put o.dst (.int .i64 z)) w) : wpList P ops Q (o :: rest) a w :=
  wpList_plain hgd fun K hK => by
    have e : (execOp a.eval o).run P w = .ok (.value (.int .i64 (IntKind.i64.wrap (m + n)))) w := by
      unfold execOp
      simp only [ho, hx, hy]
      simp [go_sem]
    unfold Oper.wp
    rw [e]
    exact hK _ _ (h _)
/-- some answer -/
def LgP (w : World) (e : Ending) (w' : World) : Prop := ∃ b : Bool, e = .returned (.bool b) ∧ Below w.heap.size w w'
set_option maxRecDepth 100000 in
set_option maxHeartbeats 16000000 in
theorem large15 (x : Pr) (w : World) (h : x.at w) (hx : x.fit) :
    Calls Tryd.prog 12 #[.agg x.cs] w (LgP w) := by
  have HB0 := Lib.hid ((Below.refl w.heap.size w).alloc (Nat.le_refl _) (.cells x.cs 28))
  obtain ⟨h1, h2, h3, h4, h5, h6, h7, h8, h9, h10⟩ := hx
  have H3 := Lib.hid h3
  have H4 := Lib.hid h4
  have AT := Lib.hid h
  clear h2 h3 h4 h
  obtain ⟨W0, hW0⟩ : ∃ W, w.alloc (.cells x.cs 28) = W := ⟨_, rfl⟩
  have b2 : W0.cell? ⟨w.heap.size, 2, none⟩ = some (.slice x.no x.nn x.nc) := by rw [← hW0]; simp
  have b3 : W0.cell? ⟨w.heap.size, 3, none⟩ = some (.slice x.fo x.fn x.fc) := by rw [← hW0]; simp
  have hl : w.heap.size < W0.heap.size := by rw [← hW0]; simp
  have HL := Lib.hid hl
  have B2 := Lib.hid b2
  have B3 := Lib.hid b3
  have HW := Lib.hid hW0
  clear b2 b3 hl hW0
  go_enter Tryd.func12, Tryd.ntmps12
  go_wp2_with (first | (with_reducible refine wpList_some (o := ⟨some 13, _, _, _, _, _⟩) rfl _ _ _ _ rfl _ _ rfl rfl ?_; intro z1) | (with_reducible refine wpList_some (o := ⟨some 17, _, _, _, _, _⟩) rfl _ _ _ _ rfl _ _ rfl rfl ?_; intro z2))
  go_loopw [3, 4] (fun n i wr => ∃ (z : Int) (k : Nat), k ≤ x.nn ∧ n = .int .i64 z ∧ i = .int .i64 k ∧ Below W0.heap.size W0 wr) (fun _ i _ => x.nn - (intOf i).toNat)
  case atStart => exact ⟨_, 0, Nat.zero_le _, rfl, rfl, by rw [← HW.out]; exact Below.refl _ _⟩
  case round =>
    obtain ⟨z, k, hk, rfl, rfl, hB⟩ := hrel
    have HB := Lib.hid hB
    have q2 : wr.cell? ⟨w.heap.size, 2, none⟩ = some (.slice x.no x.nn x.nc) := by rw [hB.cell (p := ⟨w.heap.size, 2, none⟩) HL.out]; exact B2.out
    have q3 : wr.cell? ⟨w.heap.size, 3, none⟩ = some (.slice x.fo x.fn x.fc) := by rw [hB.cell (p := ⟨w.heap.size, 3, none⟩) HL.out]; exact B3.out
    clear hB
    have HBW : Hid (Below w.heap.size w wr) := Lib.hid (below_step (by rw [← HW.out]; exact HB0.out) HB.out)
    by_cases hlt : k < x.nn ∧ z < 600
    · obtain ⟨hlt, hz6⟩ := hlt
      obtain ⟨b, off, hno, hb, hat, y0, y1, y2, y3, y4, y5, y6, y7, y8, y9, y10⟩ := (AT.out.n.below HBW.out) k hlt
      have HF := Lib.hid (H3.out k)
      obtain ⟨v, hv⟩ : ∃ v, x.nf k = v := ⟨_, rfl⟩
      rw [hv] at y0 y1 y2 y3 y4 y5 y6 y7 y8 y9 y10 HF
      rw [hno] at q2
      have hz : ∀ o, (wr.alloc o).cell? ⟨w.heap.size, 2, none⟩ = some (.slice (some ⟨b, off, none⟩) x.nn x.nc) := fun o => by rw [World.cell?_alloc_some _ _ _ (by rw [q2]; rfl)]; exact q2
      have s1 := HF.out.1.2.2.2.2.2.2.2.1
      have s2 := HF.out.1.2.2.2.2.2.2.2.2.1
      clear hat hno hv q3
      have HB3 := Lib.hid (HB.out.alloc HB.out.size (.cells v.cs 41))
      go_wp2_with (first | (with_reducible refine wpList_some (o := ⟨some 38, _, _, _, _, _⟩) rfl _ _ _ _ rfl _ _ rfl rfl ?_; intro z1) | (with_reducible refine wpList_some (o := ⟨some 42, _, _, _, _, _⟩) rfl _ _ _ _ rfl _ _ rfl rfl ?_; intro z2) | (with_reducible refine wpList_some (o := ⟨some 47, _, _, _, _, _⟩) rfl _ _ _ _ rfl _ _ rfl rfl ?_; intro z3) | (with_reducible refine wpList_some (o := ⟨some 52, _, _, _, _, _⟩) rfl _ _ _ _ rfl _ _ rfl rfl ?_; intro z4))
      go_roundw
      case rel => exact ⟨_, k + 1, by omega, rfl, by go_num, HB3.out⟩
      case measure => simp [intOf]; omega
    · have hcase : (k < x.nn ∧ ¬ z < 600) ∨ ¬ k < x.nn := by
        by_cases h : k < x.nn
        · exact .inl ⟨h, fun h2 => hlt ⟨h, h2⟩⟩
        · exact .inr h
      clear hlt
      rcases hcase with ⟨hk1, hk2⟩ | hk1
      all_goals
        go_wp2
        obtain ⟨wo, rfl⟩ : ∃ wo : World, wo = wr := ⟨_, rfl⟩
        go_loopw [3, 6] (fun n i wr => ∃ (z : Int) (k : Nat), k ≤ x.fn ∧ n = .int .i64 z ∧ i = .int .i64 k ∧ Below W0.heap.size W0 wr) (fun _ i _ => x.fn - (intOf i).toNat)
        case atStart => exact ⟨_, 0, Nat.zero_le _, rfl, rfl, HB.out⟩
        case round =>
          clear q2 q3 HB HBW hk1
          obtain ⟨z, k, hk, rfl, rfl, hB⟩ := hrel
          have HB := Lib.hid hB
          have q3 : wr.cell? ⟨w.heap.size, 3, none⟩ = some (.slice x.fo x.fn x.fc) := by rw [hB.cell (p := ⟨w.heap.size, 3, none⟩) HL.out]; exact B3.out
          clear hB
          have HBW : Hid (Below w.heap.size w wr) := Lib.hid (below_step (by rw [← HW.out]; exact HB0.out) HB.out)
          by_cases hlt : k < x.fn ∧ z < 600
          · obtain ⟨hlt, hz6⟩ := hlt
            obtain ⟨b, off, hno, hb, y0, y1, y2, y3⟩ := (AT.out.f.below HBW.out) k hlt
            have HF := Lib.hid (H4.out k)
            obtain ⟨v, hv⟩ : ∃ v, x.ff k = v := ⟨_, rfl⟩
            rw [hv] at y0 y1 y2 y3 HF
            rw [hno] at q3
            have s1 := HF.out.2.2.2.2
            clear hno hv
            go_wp2_with (with_reducible refine wpList_some (o := ⟨some 73, _, _, _, _, _⟩) rfl _ _ _ _ rfl _ _ rfl rfl ?_; intro z1)
            go_roundw
            case rel => exact ⟨_, k + 1, by omega, rfl, by go_num, HB.out⟩
            case measure => simp [intOf]; omega
          · have hcase : (k < x.fn ∧ ¬ z < 600) ∨ ¬ k < x.fn := by
              by_cases h : k < x.fn
              · exact .inl ⟨h, fun h2 => hlt ⟨h, h2⟩⟩
              · exact .inr h
            clear hlt
            rcases hcase with ⟨hk1, hk2⟩ | hk1
            all_goals
              go_wp2
              go_ret
              exact ⟨_, rfl, HBW.out⟩
end Go.Proofs.YtblebjgjomamdaaDoor
