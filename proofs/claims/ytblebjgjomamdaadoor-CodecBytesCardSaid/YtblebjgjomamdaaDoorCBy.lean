/- callboardlaw15.CodecBytes returns true. Conditions: the tables as laid; lengths are lengths. -/
import Derived.Test.YtblebjgjomamdaaDoorCb
import Derived.Test.YtblebjgjomamdaaDoorCl
namespace Go.Proofs.YtblebjgjomamdaaDoor
open Go.RowKit Go.Ow Go.Wi

set_option maxRecDepth 100000 in
set_option maxHeartbeats 8000000 in
theorem bytes_run {A : Nat → Nat × Nat} (t : ByteArray) (x : Pr) (at' : Int) (b : Nat) (w : World) (hG : Gl A w) (hat : x.at w) (hx : x.fit) (ht : t.size ≤ 9223372036854775807) (_h1 : -9223372036854775808 ≤ at') (_h2 : at' ≤ 9223372036854775807) (hb : b < 256) :
    Calls Tryd.prog 4 #[.string t, .agg x.cs, .int .i64 at', .int .u8 b] w fun e w' => e = .returned (.bool true) ∧ Below w.heap.size w w' := by
  have HG := Lib.hid hG
  have HA := Lib.hid hat
  have HX := Lib.hid hx
  have HB0 := Lib.hid ((Below.refl w.heap.size w).alloc (Nat.le_refl _) (.cells x.cs 28))
  have BX0 := Lib.hid (blk_new w x.cs 28)
  obtain ⟨W0, hW0⟩ : ∃ W, w.alloc (.cells x.cs 28) = W := ⟨_, rfl⟩
  rw [hW0] at HB0 BX0
  have WK := Lib.hid (fun (W : World) (hb : Below w.heap.size w W) => works_true W (hG.below hb))
  clear hG hat hx
  by_cases a1 : 8000 < t.size
  · subst hW0
    go_enter Tryd.func4, Tryd.ntmps4
    go_wp2_with (first
      | (go_at_call 5; with_reducible refine (WK.out _ HB0.out).mono ?_; rintro e w1 ⟨rfl, hb1⟩; have HB1 := Lib.hid (below_step HB0.out hb1))
      | (go_at_call 5; with_reducible refine (WK.out _ HB1.out).mono ?_; rintro e w2 ⟨rfl, hb2⟩))
    go_ret
    exact ⟨rfl, below_step HB1.out hb2⟩
  have a1' : t.size ≤ 8000 := by omega
  clear a1 ht
  subst hW0
  go_enter Tryd.func4, Tryd.ntmps4
  go_wp2_with (go_at_call 5; with_reducible refine (WK.out _ HB0.out).mono ?_; rintro e w1 ⟨rfl, hb1⟩; have HB1 := Lib.hid (below_step HB0.out hb1); have BX1 := Lib.hid (BX0.out.below hb1 BX0.out.lt); have k0 := BX1.out.c 0; have k1 := BX1.out.c 1; have k2 := BX1.out.c 2; have k3 := BX1.out.c 3)
  refine (large15 x w1 (HA.out.below HB1.out) HX.out).mono ?_
  rintro e w2 ⟨lg, rfl, hb2⟩
  have HB2 := Lib.hid (below_step HB1.out hb2)
  have BX2 := Lib.hid (BX1.out.below hb2 BX1.out.lt)
  clear hb1 hb2 HB1 BX1 k0 k1 k2 k3 HB0 BX0
  cases lg
  · have TL : ∃ l : List UInt8, t = ⟨l.toArray⟩ := ⟨t.data.toList, by simp⟩
    obtain ⟨tl, rfl⟩ := TL
    rw [mk_size] at a1'
    have WH := Lib.hid (fun (l : List UInt8) (hl : l.length ≤ 900000) (W : World) (hb : Below w.heap.size w W) => whole_any l W (HG.out.below hb) hl)
    go_wp2_with (go_at_call 13; with_reducible refine (WH.out tl (by omega) _ HB2.out).mono ?_; rintro e w3 ⟨rfl, hb3⟩; have HB3 := Lib.hid (below_step HB2.out hb3); have BX3 := Lib.hid (BX2.out.below hb3 BX2.out.lt); have k0 := BX3.out.c 0; have k1 := BX3.out.c 1; have k2 := BX3.out.c 2; have k3 := BX3.out.c 3; clear hb3)
    by_cases hxe : x.e = 0
    · refine (enc_yes x w3 (HG.out.below HB3.out) (HA.out.below HB3.out) HX.out hxe (pr_fitW hxe HX.out) (prB_le hxe HX.out).1).mono ?_
      rintro e w4 ⟨rfl, hb4⟩
      have HB4 := Lib.hid (below_step HB3.out hb4)
      clear hb4 k0 k1 k2 k3 HB3 BX3 HB2 BX2
      unfold encR
      by_cases hc : (prW x || decide (4000 < (prB x).length + 4)) = true
      · rw [if_pos hc]
        clear hc
        go_wp2
        go_ret
        exact ⟨rfl, HB4.out⟩
      · rw [if_neg hc]
        obtain ⟨P, hP⟩ : ∃ P, prB x = P := ⟨_, rfl⟩
        obtain ⟨n, hn⟩ : ∃ n, P.length = n := ⟨_, rfl⟩
        have hle := prB_le hxe HX.out
        have hS := sealL_len (prB x)
        rw [hP] at hle hS
        rw [hn] at hle
        rw [hP]
        obtain ⟨S, hSS⟩ : ∃ S, sealL P = S := ⟨_, rfl⟩
        rw [hSS] at hS ⊢
        have zs : (⟨(P ++ S).toArray⟩ : ByteArray).size = n + 4 := by rw [mk_size, List.length_append, hn, hS]
        have ex : (⟨(P ++ S).toArray⟩ : ByteArray).extract 0 n = ⟨P.toArray⟩ := by rw [Wr.ext_take, List.take_left' hn]
        obtain ⟨v, w5, hconv, hown, hbel, hlt⟩ := owns_of_string (P := Tryd.prog) w4 9 38 5 ⟨P.toArray⟩ Tryd.underlying9 Tryd.underlying38 Tryd.underlying5 (by rw [mk_size, hn]; unfold maxLen; omega)
        obtain ⟨g, cap, cur, fr, rfl, hg0, hg, hfr, hcl, hcm, hcs, htk⟩ := hown
        rw [show (List.map (fun b : UInt8 => Value.int .u8 b.toNat) (⟨P.toArray⟩ : ByteArray).data.toList).length = n by simp [hn]] at hconv hcl htk
        have HSE := Lib.hid hbel
        have HG0 := Lib.hid hg0
        have HGH := Lib.hid hg
        have HFR := Lib.hid hfr
        have HTK := Lib.hid htk
        obtain ⟨u, hu⟩ : ∃ u : Nat, IntKind.u64.wrap at' = u := ⟨(IntKind.u64.wrap at').toNat, by rw [IntKind.wrap_u64]; omega⟩
        have hn0 : ((n : Int) == 0) = false := by rw [beq_eq_false_iff_ne]; omega
        obtain ⟨i, hi⟩ : ∃ i, u % n = i := ⟨_, rfl⟩
        have hin : i < n := by rw [← hi]; exact Nat.mod_lt _ (by omega)
        have hi2 : (u : Int) % (n : Int) = (i : Int) := by rw [← hi]; simp
        have ci : w5.cell? ⟨g, i, none⟩ = some (.int .u8 ((P[i]'(by omega)).toNat)) := by
          rw [cell_of_row w5 g i cur 5 fr hg, ← Array.getElem?_toList]
          have := congrArg (fun l => l[i]?) htk
          rw [List.getElem?_take, if_pos hin] at this
          rw [this, List.getElem?_map, List.getElem?_eq_getElem (by simpa [hn] using hin)]
          simp
        have fi : w5.frozen? ⟨g, i, none⟩ = false := by
          unfold World.frozen?
          rw [hg]
          simp only
          have hlt2 : i < cur.size := by omega
          have := hfr i hlt2
          simpa using this
        clear hc hP hSS hbel hg hfr htk hg0
        go_upto_region 12 with (fail)
        obtain ⟨W6, hW6⟩ : ∃ W6, w5.setCell ⟨g, i, none⟩ (.int .u8 b) = W6 := ⟨_, rfl⟩
        rw [hW6]
        have g6 : W6.heap[g]? = some (.cells (cur.setIfInBounds i (.int .u8 b)) 5 fr) := by
          rw [← hW6]
          simp [World.setCell, Array.getElem?_modify, HGH.out]
        have hb6 : Below w.heap.size w W6 := by
          rw [← hW6]
          exact (below_step HB4.out HSE.out).setCell (Nat.le_trans HB4.out.size HG0.out) _
        have cv := run_convert_bytes_back (P := Tryd.prog) W6 38 9 5 ⟨g, 0, none⟩ cap (P.set i (UInt8.ofNat b)) Tryd.underlying38 Tryd.underlying5 Tryd.underlying9 (fun j hj => by
          have hj' : j < n := by rw [List.length_set, hn] at hj; exact hj
          rw [Addr.add_lit, Nat.zero_add, cell_of_row W6 g j _ 5 fr g6, Array.getElem?_setIfInBounds]
          by_cases hij : i = j
          · subst hij
            rw [if_pos rfl, if_pos (by omega)]
            simp
            omega
          · rw [if_neg hij, ← Array.getElem?_toList]
            have := congrArg (fun l => l[j]?) HTK.out
            rw [List.getElem?_take, if_pos hj'] at this
            rw [this, List.getElem?_map, List.getElem?_eq_getElem (by simpa [hn] using hj')]
            simp [List.getElem_set_ne hij])
        rw [List.length_set, hn] at cv
        have ex2 : (⟨(P ++ S).toArray⟩ : ByteArray).extract 0 i = ⟨((P ++ S).take i).toArray⟩ := Wr.ext_take _ _
        have HB6 := Lib.hid hb6
        have l1 : (P.set i (UInt8.ofNat b)).length ≤ 900000 := by rw [List.length_set, hn]; omega
        have l2 : ((P ++ S).take i).length ≤ 900000 := by rw [List.length_take]; omega
        have HL := Lib.hid (And.intro l1 l2)
        obtain ⟨P2, hP2⟩ : ∃ P2, P.set i (UInt8.ofNat b) = P2 := ⟨_, rfl⟩
        rw [hP2] at cv HL
        obtain ⟨P3, hP3⟩ : ∃ P3, (P ++ S).take i = P3 := ⟨_, rfl⟩
        rw [hP3] at ex2 HL
        clear hW6 g6 hb6 l1 l2 hP2 hP3 hconv ci fi ex
        go_wp2_with (first
          | (go_at_call 13; with_reducible refine (WH.out P2 HL.out.1 _ HB6.out).mono ?_; rintro e w7 ⟨rfl, hb7⟩; have HB7 := Lib.hid (below_step HB6.out hb7))
          | (go_at_call 13; with_reducible refine (WH.out P3 HL.out.2 _ HB7.out).mono ?_; rintro e w8 ⟨rfl, hb8⟩))
        go_ret
        exact ⟨rfl, below_step HB7.out hb8⟩
    · have e1 : ((x.e : Int) != 0) = true := by rw [bne_iff_ne]; omega
      refine (enc_no x w3 (HG.out.below HB3.out) (HA.out.below HB3.out) HX.out hxe).mono ?_
      rintro e w4 ⟨rfl, hb4⟩
      go_wp2
      go_ret
      exact ⟨rfl, below_step HB3.out hb4⟩
  · go_wp2_with (go_at_call 5; with_reducible refine (WK.out _ HB2.out).mono ?_; rintro e w3 ⟨rfl, hb3⟩)
    go_ret
    exact ⟨rfl, below_step HB2.out hb3⟩
end Go.Proofs.YtblebjgjomamdaaDoor
