/- What save.all returns at its four types. Conditions: texts of less than 2^47 bytes, at most 1000 elements. -/
import Derived.Test.YtjakdbahopbggaaGreatDoorZSv4h
namespace Go.Proofs.YtjakdbahopbggaaGreatDoor
open Go.RowKit Go.Ow Go.Wi

set_option maxRecDepth 100000 in
set_option maxHeartbeats 8000000 in
theorem all_it (o : Option Addr) (n c : Nat) (f : Nat → It) (w : World) (h : RowA itC 8 w o n f) (hf : ∀ k, (f k).fitS) (hn : n ≤ 1000) :
    Calls Tryz.prog 20 #[.slice o n c, .func (.func 21) #[] #[]] w fun e w' =>
      ((AllOk itE itOk f n ∧ ∃ u, e = .returned (.tuple #[u, .bool true]) ∧ EnO w' w.heap.size u ((rowL f n).map itE)) ∨ (¬ AllOk itE itOk f n ∧ e = .returned (.tuple #[.slice none 0 0, .bool false]))) ∧ Below w.heap.size w w' := by
  have HA := Lib.hid h
  have HF := Lib.hid hf
  clear h hf
  obtain ⟨i0, hi, hz0, hz1, hz2⟩ := info_parts info_entry
  go_enter Tryz.func20, Tryz.ntmps20
  go_wp2
  go_loopg [6, 14] n (fun g V N wr => ∃ k : Nat, k + g = n ∧ N = .int .i64 k ∧ Hid (AllOk itE itOk f k) ∧ Hid (wr.ownsRow w.heap.size 42 2 V k (((rowL f k).map itE).flatMap enC)) ∧ Hid (Below w.heap.size w wr))
  case atStart => exact ⟨0, by omega, rfl, Lib.hid AllOk.zero, Lib.hid ⟨rfl, .inl ⟨rfl, rfl⟩⟩, Lib.hid (Below.refl _ _)⟩
  case round =>
    obtain ⟨k, hk, rfl, HK, HO, HB⟩ := hrel
    by_cases hlt : k < n
    · obtain ⟨b, off, rfl, hb, hc⟩ := (HA.out.below HB.out) k hlt
      have i1 : (k : Int) < (n : Int) := by omega
      have i2 : (0 : Int) ≤ (k : Int) := by omega
      have HFK := Lib.hid (HF.out k)
      obtain ⟨x, hx⟩ : ∃ x, f k = x := ⟨_, rfl⟩
      rw [hx] at hc HFK
      have HX := Lib.hid hx
      have c0 := hc 0 _ rfl
      rw [Nat.add_zero] at c0
      have c1 := hc 1 _ rfl
      have c2 := hc 2 _ rfl
      have c3 := hc 3 _ rfl
      have c4 := hc 4 _ rfl
      have c5 := hc 5 _ rfl
      have c6 := hc 6 _ rfl
      have c7 := hc 7 _ rfl
      clear hc
      have hsz := HB.out.size
      have HS := Lib.hid hsz
      have hp0 : Pn ((wr.alloc (.cells (itC x) 49)).alloc (.cells #[strL' [], .bool true] 95)) (wr.heap.size + 1) [] true := by
        have := heap_alloc_new (wr.alloc (.cells (itC x) 49)) (.cells #[strL' [], .bool true] 95)
        unfold Pn Two
        simpa using this
      have HP0 := Lib.hid hp0
      have TE := Lib.hid (tell_it x HFK.out (wr.heap.size + 1) _ HP0.out)
      have hb2 : Below w.heap.size w ((wr.alloc (.cells (itC x) 49)).alloc (.cells #[strL' [], .bool true] 95)) := (HB.out.alloc hsz _).alloc (by simp; omega) _
      have HB2 := Lib.hid hb2
      obtain ⟨t, ht⟩ : ∃ t, itT x = t := ⟨_, rfl⟩
      obtain ⟨q, hq⟩ : ∃ t, itP x = t := ⟨_, rfl⟩
      rw [ht, hq] at TE
      have HQ : Hid (itOk x = (t && q)) := Lib.hid (by rw [← ht, ← hq]; rfl)
      clear hx hb2 hp0 ht hq
      have hown := ownC_al (ownC_al HO.out (.cells (itC x) 49)) (.cells #[strL' [], .bool true] 95)
      have HW := Lib.hid hown
      clear hown
      obtain ⟨o', c', rfl, hcap, hen⟩ := row_en HO.out (by rw [List.length_map, rowL_len])
      clear hen
      go_upto_region 7 with (go_at_call 21; with_reducible refine TE.out.mono ?_; rintro e w1 ⟨rfl, hb1, hp1⟩)
      have hw1 := ownC_but HW.out hb1 (fun g hg => by have := (ownC_blk HO.out g hg).2; omega)
      obtain ⟨o2, c2, e2, _, hen⟩ := row_en hw1 (by rw [List.length_map, rowL_len])
      simp only [Value.slice.injEq, true_and] at e2
      obtain ⟨e2, e3⟩ := e2
      subst e2 e3
      have HW1 := Lib.hid hw1
      have HEN := Lib.hid hen
      have hb3 := HB2.out.trans (hb1.below (B := w.heap.size) (by omega) (by simp))
      have HB3 := Lib.hid hb3
      have hs3 := hb3.size
      have k0 := Two.c0 hp1.two
      have k1 := Two.c1 hp1.two
      clear hw1 hen hb3 hb1 hp1 TE HW HO HB2 HP0
      cases t
      case false =>
        go_wp2
        go_ret2
        exact ⟨.inr ⟨fun h => by have := (h k hlt).1; rw [HX.out, HQ.out] at this; simp at this, rfl⟩, HB3.out⟩
      case true =>
      cases q
      case false =>
        go_wp2
        go_ret2
        exact ⟨.inr ⟨fun h => by have := (h k hlt).1; rw [HX.out, HQ.out] at this; simp at this, rfl⟩, HB3.out⟩
      case true =>
      have HQ' : Hid (itOk (f k) = true) := Lib.hid (by rw [HX.out, HQ.out]; rfl)
      have main : ∀ (hK : 0 < k → (itE (f (k - 1))).k < (itE (f k)).k), Hid (AllOk itE itOk f (k + 1)) := fun hK => Lib.hid (HK.out.step HQ'.out hK)
      have MA := Lib.hid main
      clear main
      have hk5 : k ≤ 100000 := by omega
      cases k with
      | zero =>
        have HK2 := MA.out (fun h => absurd h (by omega))
        go_wp2_with (at_builtin; refine wpList_appown _ rfl (.tmp 52) (.tmp 59) 30 rfl i0 _ 2 32 Tryz.underlying30 hi hz0 hz1 hz2 rfl (by decide) rfl (ownC_al HW1.out _) w1.heap.size 1 #[strL' (itE x).k, strL' (itE x).v] 42 rfl (heap_alloc_new _ _) rfl ?d1 hk5 (by decide) ?d2 ?_)
        case d1 => exact ⟨rfl, rfl⟩
        case d2 => simp; omega
        intro v' w4 ho4 hg4
        have HO4 : Hid (w4.ownsRow w.heap.size 42 2 v' (0 + 1) (((rowL f (0 + 1)).map itE).flatMap enC)) := Lib.hid (by rw [keys_snoc, HX.out]; exact ho4)
        have HB4 : Hid (Below w.heap.size w w4) := Lib.hid ((HB3.out.alloc hs3 _).grown hg4 (by simp; omega) (fun g hg => (ownC_blk HW1.out g hg).1))
        clear ho4 hg4
        go_wp2
        go_roundg (n - (0 + 1))
        case measure => omega
        case rel => exact ⟨0 + 1, by omega, by go_num, HK2, HO4, HB4⟩
      | succ j =>
        obtain ⟨b2, off2, rfl, hb5, d0, d1⟩ := HEN.out j _ (keys_at itE f (by omega))
        clear d1
        have hj : ((j + 1 : Nat) : Int) - 1 = (j : Int) := by omega
        have hj2 : (j : Int) < ((j + 1 : Nat) : Int) := by omega
        by_cases hlt2 : (itE (f j)).k < (itE x).k
        · have HK2 := MA.out (fun _ => by rw [Nat.add_sub_cancel, HX.out]; exact hlt2)
          have hbl : Op.bytesLess (itE (f j)).k (itE x).k = true := by rw [bytesLess_lt]; exact decide_eq_true hlt2
          clear hlt2
          go_wp2_with (at_builtin; refine wpList_appown _ rfl (.tmp 52) (.tmp 59) 30 rfl i0 _ 2 32 Tryz.underlying30 hi hz0 hz1 hz2 rfl (by decide) rfl (ownC_al HW1.out _) w1.heap.size 1 #[strL' (itE x).k, strL' (itE x).v] 42 rfl (heap_alloc_new _ _) rfl ?d1 hk5 (by decide) ?d2 ?_)
          case d1 => exact ⟨rfl, rfl⟩
          case d2 => simp; omega
          intro v' w4 ho4 hg4
          have HO4 : Hid (w4.ownsRow w.heap.size 42 2 v' ((j + 1) + 1) (((rowL f ((j + 1) + 1)).map itE).flatMap enC)) := Lib.hid (by rw [keys_snoc, HX.out]; exact ho4)
          have HB4 : Hid (Below w.heap.size w w4) := Lib.hid ((HB3.out.alloc hs3 _).grown hg4 (by simp; omega) (fun g hg => (ownC_blk HW1.out g hg).1))
          clear ho4 hg4
          go_wp2
          go_roundg (n - ((j + 1) + 1))
          case measure => omega
          case rel => exact ⟨(j + 1) + 1, by omega, by go_num, HK2, HO4, HB4⟩
        · have HN : Hid (¬ AllOk itE itOk f n) := Lib.hid (fun h => by
            have := (h (j + 1) hlt).2 (by omega)
            rw [HX.out, Nat.add_sub_cancel] at this
            exact hlt2 this)
          have hbl : Op.bytesLess (itE (f j)).k (itE x).k = false := by rw [bytesLess_lt]; exact decide_eq_false hlt2
          clear hlt2
          go_wp2
          go_ret2
          exact ⟨.inr ⟨HN.out, rfl⟩, HB3.out⟩
    · obtain rfl : k = n := by omega
      go_wp2
      go_ret2
      exact ⟨.inl ⟨HK.out, _, rfl, by unfold EnO; rw [List.length_map, rowL_len]; exact HO.out⟩, HB.out⟩

set_option maxRecDepth 100000 in
set_option maxHeartbeats 8000000 in
theorem all_cl (o : Option Addr) (n c : Nat) (f : Nat → Cl) (w : World) (h : RowA clC 5 w o n f) (hf : ∀ k, (f k).fitS) (hn : n ≤ 1000) :
    Calls Tryz.prog 22 #[.slice o n c, .func (.func 23) #[] #[]] w fun e w' =>
      ((AllOk clE clOk f n ∧ ∃ u, e = .returned (.tuple #[u, .bool true]) ∧ EnO w' w.heap.size u ((rowL f n).map clE)) ∨ (¬ AllOk clE clOk f n ∧ e = .returned (.tuple #[.slice none 0 0, .bool false]))) ∧ Below w.heap.size w w' := by
  have HA := Lib.hid h
  have HF := Lib.hid hf
  clear h hf
  obtain ⟨i0, hi, hz0, hz1, hz2⟩ := info_parts info_entry
  go_enter Tryz.func22, Tryz.ntmps22
  go_wp2
  go_loopg [6, 14] n (fun g V N wr => ∃ k : Nat, k + g = n ∧ N = .int .i64 k ∧ Hid (AllOk clE clOk f k) ∧ Hid (wr.ownsRow w.heap.size 42 2 V k (((rowL f k).map clE).flatMap enC)) ∧ Hid (Below w.heap.size w wr))
  case atStart => exact ⟨0, by omega, rfl, Lib.hid AllOk.zero, Lib.hid ⟨rfl, .inl ⟨rfl, rfl⟩⟩, Lib.hid (Below.refl _ _)⟩
  case round =>
    obtain ⟨k, hk, rfl, HK, HO, HB⟩ := hrel
    by_cases hlt : k < n
    · obtain ⟨b, off, rfl, hb, hc⟩ := (HA.out.below HB.out) k hlt
      have i1 : (k : Int) < (n : Int) := by omega
      have i2 : (0 : Int) ≤ (k : Int) := by omega
      have HFK := Lib.hid (HF.out k)
      obtain ⟨x, hx⟩ : ∃ x, f k = x := ⟨_, rfl⟩
      rw [hx] at hc HFK
      have HX := Lib.hid hx
      have c0 := hc 0 _ rfl
      rw [Nat.add_zero] at c0
      have c1 := hc 1 _ rfl
      have c2 := hc 2 _ rfl
      have c3 := hc 3 _ rfl
      have c4 := hc 4 _ rfl
      clear hc
      have hsz := HB.out.size
      have HS := Lib.hid hsz
      have hp0 : Pn ((wr.alloc (.cells (clC x) 53)).alloc (.cells #[strL' [], .bool true] 95)) (wr.heap.size + 1) [] true := by
        have := heap_alloc_new (wr.alloc (.cells (clC x) 53)) (.cells #[strL' [], .bool true] 95)
        unfold Pn Two
        simpa using this
      have HP0 := Lib.hid hp0
      have TE := Lib.hid (tell_cl x HFK.out (wr.heap.size + 1) _ HP0.out)
      have hb2 : Below w.heap.size w ((wr.alloc (.cells (clC x) 53)).alloc (.cells #[strL' [], .bool true] 95)) := (HB.out.alloc hsz _).alloc (by simp; omega) _
      have HB2 := Lib.hid hb2
      obtain ⟨t, ht⟩ : ∃ t, clT x = t := ⟨_, rfl⟩
      obtain ⟨q, hq⟩ : ∃ t, clP x = t := ⟨_, rfl⟩
      rw [ht, hq] at TE
      have HQ : Hid (clOk x = (t && q)) := Lib.hid (by rw [← ht, ← hq]; rfl)
      clear hx hb2 hp0 ht hq
      have hown := ownC_al (ownC_al HO.out (.cells (clC x) 53)) (.cells #[strL' [], .bool true] 95)
      have HW := Lib.hid hown
      clear hown
      obtain ⟨o', c', rfl, hcap, hen⟩ := row_en HO.out (by rw [List.length_map, rowL_len])
      clear hen
      go_upto_region 7 with (go_at_call 23; with_reducible refine TE.out.mono ?_; rintro e w1 ⟨rfl, hb1, hp1⟩)
      have hw1 := ownC_but HW.out hb1 (fun g hg => by have := (ownC_blk HO.out g hg).2; omega)
      obtain ⟨o2, c2, e2, _, hen⟩ := row_en hw1 (by rw [List.length_map, rowL_len])
      simp only [Value.slice.injEq, true_and] at e2
      obtain ⟨e2, e3⟩ := e2
      subst e2 e3
      have HW1 := Lib.hid hw1
      have HEN := Lib.hid hen
      have hb3 := HB2.out.trans (hb1.below (B := w.heap.size) (by omega) (by simp))
      have HB3 := Lib.hid hb3
      have hs3 := hb3.size
      have k0 := Two.c0 hp1.two
      have k1 := Two.c1 hp1.two
      clear hw1 hen hb3 hb1 hp1 TE HW HO HB2 HP0
      cases t
      case false =>
        go_wp2
        go_ret2
        exact ⟨.inr ⟨fun h => by have := (h k hlt).1; rw [HX.out, HQ.out] at this; simp at this, rfl⟩, HB3.out⟩
      case true =>
      cases q
      case false =>
        go_wp2
        go_ret2
        exact ⟨.inr ⟨fun h => by have := (h k hlt).1; rw [HX.out, HQ.out] at this; simp at this, rfl⟩, HB3.out⟩
      case true =>
      have HQ' : Hid (clOk (f k) = true) := Lib.hid (by rw [HX.out, HQ.out]; rfl)
      have main : ∀ (hK : 0 < k → (clE (f (k - 1))).k < (clE (f k)).k), Hid (AllOk clE clOk f (k + 1)) := fun hK => Lib.hid (HK.out.step HQ'.out hK)
      have MA := Lib.hid main
      clear main
      have hk5 : k ≤ 100000 := by omega
      cases k with
      | zero =>
        have HK2 := MA.out (fun h => absurd h (by omega))
        go_wp2_with (at_builtin; refine wpList_appown _ rfl (.tmp 52) (.tmp 59) 30 rfl i0 _ 2 32 Tryz.underlying30 hi hz0 hz1 hz2 rfl (by decide) rfl (ownC_al HW1.out _) w1.heap.size 1 #[strL' (clE x).k, strL' (clE x).v] 42 rfl (heap_alloc_new _ _) rfl ?d1 hk5 (by decide) ?d2 ?_)
        case d1 => exact ⟨rfl, rfl⟩
        case d2 => simp; omega
        intro v' w4 ho4 hg4
        have HO4 : Hid (w4.ownsRow w.heap.size 42 2 v' (0 + 1) (((rowL f (0 + 1)).map clE).flatMap enC)) := Lib.hid (by rw [keys_snoc, HX.out]; exact ho4)
        have HB4 : Hid (Below w.heap.size w w4) := Lib.hid ((HB3.out.alloc hs3 _).grown hg4 (by simp; omega) (fun g hg => (ownC_blk HW1.out g hg).1))
        clear ho4 hg4
        go_wp2
        go_roundg (n - (0 + 1))
        case measure => omega
        case rel => exact ⟨0 + 1, by omega, by go_num, HK2, HO4, HB4⟩
      | succ j =>
        obtain ⟨b2, off2, rfl, hb5, d0, d1⟩ := HEN.out j _ (keys_at clE f (by omega))
        clear d1
        have hj : ((j + 1 : Nat) : Int) - 1 = (j : Int) := by omega
        have hj2 : (j : Int) < ((j + 1 : Nat) : Int) := by omega
        by_cases hlt2 : (clE (f j)).k < (clE x).k
        · have HK2 := MA.out (fun _ => by rw [Nat.add_sub_cancel, HX.out]; exact hlt2)
          have hbl : Op.bytesLess (clE (f j)).k (clE x).k = true := by rw [bytesLess_lt]; exact decide_eq_true hlt2
          clear hlt2
          go_wp2_with (at_builtin; refine wpList_appown _ rfl (.tmp 52) (.tmp 59) 30 rfl i0 _ 2 32 Tryz.underlying30 hi hz0 hz1 hz2 rfl (by decide) rfl (ownC_al HW1.out _) w1.heap.size 1 #[strL' (clE x).k, strL' (clE x).v] 42 rfl (heap_alloc_new _ _) rfl ?d1 hk5 (by decide) ?d2 ?_)
          case d1 => exact ⟨rfl, rfl⟩
          case d2 => simp; omega
          intro v' w4 ho4 hg4
          have HO4 : Hid (w4.ownsRow w.heap.size 42 2 v' ((j + 1) + 1) (((rowL f ((j + 1) + 1)).map clE).flatMap enC)) := Lib.hid (by rw [keys_snoc, HX.out]; exact ho4)
          have HB4 : Hid (Below w.heap.size w w4) := Lib.hid ((HB3.out.alloc hs3 _).grown hg4 (by simp; omega) (fun g hg => (ownC_blk HW1.out g hg).1))
          clear ho4 hg4
          go_wp2
          go_roundg (n - ((j + 1) + 1))
          case measure => omega
          case rel => exact ⟨(j + 1) + 1, by omega, by go_num, HK2, HO4, HB4⟩
        · have HN : Hid (¬ AllOk clE clOk f n) := Lib.hid (fun h => by
            have := (h (j + 1) hlt).2 (by omega)
            rw [HX.out, Nat.add_sub_cancel] at this
            exact hlt2 this)
          have hbl : Op.bytesLess (clE (f j)).k (clE x).k = false := by rw [bytesLess_lt]; exact decide_eq_false hlt2
          clear hlt2
          go_wp2
          go_ret2
          exact ⟨.inr ⟨HN.out, rfl⟩, HB3.out⟩
    · obtain rfl : k = n := by omega
      go_wp2
      go_ret2
      exact ⟨.inl ⟨HK.out, _, rfl, by unfold EnO; rw [List.length_map, rowL_len]; exact HO.out⟩, HB.out⟩

set_option maxRecDepth 100000 in
set_option maxHeartbeats 8000000 in
theorem all_wa (o : Option Addr) (n c : Nat) (f : Nat → Wa) (w : World) (h : RowA waC 7 w o n f) (hf : ∀ k, (f k).fitS) (hn : n ≤ 1000) :
    Calls Tryz.prog 24 #[.slice o n c, .func (.func 25) #[] #[]] w fun e w' =>
      ((AllOk waE waOk f n ∧ ∃ u, e = .returned (.tuple #[u, .bool true]) ∧ EnO w' w.heap.size u ((rowL f n).map waE)) ∨ (¬ AllOk waE waOk f n ∧ e = .returned (.tuple #[.slice none 0 0, .bool false]))) ∧ Below w.heap.size w w' := by
  have HA := Lib.hid h
  have HF := Lib.hid hf
  clear h hf
  obtain ⟨i0, hi, hz0, hz1, hz2⟩ := info_parts info_entry
  go_enter Tryz.func24, Tryz.ntmps24
  go_wp2
  go_loopg [6, 14] n (fun g V N wr => ∃ k : Nat, k + g = n ∧ N = .int .i64 k ∧ Hid (AllOk waE waOk f k) ∧ Hid (wr.ownsRow w.heap.size 42 2 V k (((rowL f k).map waE).flatMap enC)) ∧ Hid (Below w.heap.size w wr))
  case atStart => exact ⟨0, by omega, rfl, Lib.hid AllOk.zero, Lib.hid ⟨rfl, .inl ⟨rfl, rfl⟩⟩, Lib.hid (Below.refl _ _)⟩
  case round =>
    obtain ⟨k, hk, rfl, HK, HO, HB⟩ := hrel
    by_cases hlt : k < n
    · obtain ⟨b, off, rfl, hb, hc⟩ := (HA.out.below HB.out) k hlt
      have i1 : (k : Int) < (n : Int) := by omega
      have i2 : (0 : Int) ≤ (k : Int) := by omega
      have HFK := Lib.hid (HF.out k)
      obtain ⟨x, hx⟩ : ∃ x, f k = x := ⟨_, rfl⟩
      rw [hx] at hc HFK
      have HX := Lib.hid hx
      have c0 := hc 0 _ rfl
      rw [Nat.add_zero] at c0
      have c1 := hc 1 _ rfl
      have c2 := hc 2 _ rfl
      have c3 := hc 3 _ rfl
      have c4 := hc 4 _ rfl
      have c5 := hc 5 _ rfl
      have c6 := hc 6 _ rfl
      clear hc
      have hsz := HB.out.size
      have HS := Lib.hid hsz
      have hp0 : Pn ((wr.alloc (.cells (waC x) 55)).alloc (.cells #[strL' [], .bool true] 95)) (wr.heap.size + 1) [] true := by
        have := heap_alloc_new (wr.alloc (.cells (waC x) 55)) (.cells #[strL' [], .bool true] 95)
        unfold Pn Two
        simpa using this
      have HP0 := Lib.hid hp0
      have TE := Lib.hid (tell_wa x HFK.out (wr.heap.size + 1) _ HP0.out)
      have hb2 : Below w.heap.size w ((wr.alloc (.cells (waC x) 55)).alloc (.cells #[strL' [], .bool true] 95)) := (HB.out.alloc hsz _).alloc (by simp; omega) _
      have HB2 := Lib.hid hb2
      obtain ⟨t, ht⟩ : ∃ t, waT x = t := ⟨_, rfl⟩
      obtain ⟨q, hq⟩ : ∃ t, waP x = t := ⟨_, rfl⟩
      rw [ht, hq] at TE
      have HQ : Hid (waOk x = (t && q)) := Lib.hid (by rw [← ht, ← hq]; rfl)
      clear hx hb2 hp0 ht hq
      have hown := ownC_al (ownC_al HO.out (.cells (waC x) 55)) (.cells #[strL' [], .bool true] 95)
      have HW := Lib.hid hown
      clear hown
      obtain ⟨o', c', rfl, hcap, hen⟩ := row_en HO.out (by rw [List.length_map, rowL_len])
      clear hen
      go_upto_region 7 with (go_at_call 25; with_reducible refine TE.out.mono ?_; rintro e w1 ⟨rfl, hb1, hp1⟩)
      have hw1 := ownC_but HW.out hb1 (fun g hg => by have := (ownC_blk HO.out g hg).2; omega)
      obtain ⟨o2, c2, e2, _, hen⟩ := row_en hw1 (by rw [List.length_map, rowL_len])
      simp only [Value.slice.injEq, true_and] at e2
      obtain ⟨e2, e3⟩ := e2
      subst e2 e3
      have HW1 := Lib.hid hw1
      have HEN := Lib.hid hen
      have hb3 := HB2.out.trans (hb1.below (B := w.heap.size) (by omega) (by simp))
      have HB3 := Lib.hid hb3
      have hs3 := hb3.size
      have k0 := Two.c0 hp1.two
      have k1 := Two.c1 hp1.two
      clear hw1 hen hb3 hb1 hp1 TE HW HO HB2 HP0
      cases t
      case false =>
        go_wp2
        go_ret2
        exact ⟨.inr ⟨fun h => by have := (h k hlt).1; rw [HX.out, HQ.out] at this; simp at this, rfl⟩, HB3.out⟩
      case true =>
      cases q
      case false =>
        go_wp2
        go_ret2
        exact ⟨.inr ⟨fun h => by have := (h k hlt).1; rw [HX.out, HQ.out] at this; simp at this, rfl⟩, HB3.out⟩
      case true =>
      have HQ' : Hid (waOk (f k) = true) := Lib.hid (by rw [HX.out, HQ.out]; rfl)
      have main : ∀ (hK : 0 < k → (waE (f (k - 1))).k < (waE (f k)).k), Hid (AllOk waE waOk f (k + 1)) := fun hK => Lib.hid (HK.out.step HQ'.out hK)
      have MA := Lib.hid main
      clear main
      have hk5 : k ≤ 100000 := by omega
      cases k with
      | zero =>
        have HK2 := MA.out (fun h => absurd h (by omega))
        go_wp2_with (at_builtin; refine wpList_appown _ rfl (.tmp 52) (.tmp 59) 30 rfl i0 _ 2 32 Tryz.underlying30 hi hz0 hz1 hz2 rfl (by decide) rfl (ownC_al HW1.out _) w1.heap.size 1 #[strL' (waE x).k, strL' (waE x).v] 42 rfl (heap_alloc_new _ _) rfl ?d1 hk5 (by decide) ?d2 ?_)
        case d1 => exact ⟨rfl, rfl⟩
        case d2 => simp; omega
        intro v' w4 ho4 hg4
        have HO4 : Hid (w4.ownsRow w.heap.size 42 2 v' (0 + 1) (((rowL f (0 + 1)).map waE).flatMap enC)) := Lib.hid (by rw [keys_snoc, HX.out]; exact ho4)
        have HB4 : Hid (Below w.heap.size w w4) := Lib.hid ((HB3.out.alloc hs3 _).grown hg4 (by simp; omega) (fun g hg => (ownC_blk HW1.out g hg).1))
        clear ho4 hg4
        go_wp2
        go_roundg (n - (0 + 1))
        case measure => omega
        case rel => exact ⟨0 + 1, by omega, by go_num, HK2, HO4, HB4⟩
      | succ j =>
        obtain ⟨b2, off2, rfl, hb5, d0, d1⟩ := HEN.out j _ (keys_at waE f (by omega))
        clear d1
        have hj : ((j + 1 : Nat) : Int) - 1 = (j : Int) := by omega
        have hj2 : (j : Int) < ((j + 1 : Nat) : Int) := by omega
        by_cases hlt2 : (waE (f j)).k < (waE x).k
        · have HK2 := MA.out (fun _ => by rw [Nat.add_sub_cancel, HX.out]; exact hlt2)
          have hbl : Op.bytesLess (waE (f j)).k (waE x).k = true := by rw [bytesLess_lt]; exact decide_eq_true hlt2
          clear hlt2
          go_wp2_with (at_builtin; refine wpList_appown _ rfl (.tmp 52) (.tmp 59) 30 rfl i0 _ 2 32 Tryz.underlying30 hi hz0 hz1 hz2 rfl (by decide) rfl (ownC_al HW1.out _) w1.heap.size 1 #[strL' (waE x).k, strL' (waE x).v] 42 rfl (heap_alloc_new _ _) rfl ?d1 hk5 (by decide) ?d2 ?_)
          case d1 => exact ⟨rfl, rfl⟩
          case d2 => simp; omega
          intro v' w4 ho4 hg4
          have HO4 : Hid (w4.ownsRow w.heap.size 42 2 v' ((j + 1) + 1) (((rowL f ((j + 1) + 1)).map waE).flatMap enC)) := Lib.hid (by rw [keys_snoc, HX.out]; exact ho4)
          have HB4 : Hid (Below w.heap.size w w4) := Lib.hid ((HB3.out.alloc hs3 _).grown hg4 (by simp; omega) (fun g hg => (ownC_blk HW1.out g hg).1))
          clear ho4 hg4
          go_wp2
          go_roundg (n - ((j + 1) + 1))
          case measure => omega
          case rel => exact ⟨(j + 1) + 1, by omega, by go_num, HK2, HO4, HB4⟩
        · have HN : Hid (¬ AllOk waE waOk f n) := Lib.hid (fun h => by
            have := (h (j + 1) hlt).2 (by omega)
            rw [HX.out, Nat.add_sub_cancel] at this
            exact hlt2 this)
          have hbl : Op.bytesLess (waE (f j)).k (waE x).k = false := by rw [bytesLess_lt]; exact decide_eq_false hlt2
          clear hlt2
          go_wp2
          go_ret2
          exact ⟨.inr ⟨HN.out, rfl⟩, HB3.out⟩
    · obtain rfl : k = n := by omega
      go_wp2
      go_ret2
      exact ⟨.inl ⟨HK.out, _, rfl, by unfold EnO; rw [List.length_map, rowL_len]; exact HO.out⟩, HB.out⟩

set_option maxRecDepth 100000 in
set_option maxHeartbeats 8000000 in
theorem all_sh (o : Option Addr) (n c : Nat) (f : Nat → Sh) (w : World) (h : RowA shC 6 w o n f) (hf : ∀ k, (f k).fitS) (hn : n ≤ 1000) :
    Calls Tryz.prog 16 #[.slice o n c, .func (.func 17) #[] #[]] w fun e w' =>
      ((AllOk shE shOk f n ∧ ∃ u, e = .returned (.tuple #[u, .bool true]) ∧ EnO w' w.heap.size u ((rowL f n).map shE)) ∨ (¬ AllOk shE shOk f n ∧ e = .returned (.tuple #[.slice none 0 0, .bool false]))) ∧ Below w.heap.size w w' := by
  have HA := Lib.hid h
  have HF := Lib.hid hf
  clear h hf
  obtain ⟨i0, hi, hz0, hz1, hz2⟩ := info_parts info_entry
  go_enter Tryz.func16, Tryz.ntmps16
  go_wp2
  go_loopg [6, 14] n (fun g V N wr => ∃ k : Nat, k + g = n ∧ N = .int .i64 k ∧ Hid (AllOk shE shOk f k) ∧ Hid (wr.ownsRow w.heap.size 42 2 V k (((rowL f k).map shE).flatMap enC)) ∧ Hid (Below w.heap.size w wr))
  case atStart => exact ⟨0, by omega, rfl, Lib.hid AllOk.zero, Lib.hid ⟨rfl, .inl ⟨rfl, rfl⟩⟩, Lib.hid (Below.refl _ _)⟩
  case round =>
    obtain ⟨k, hk, rfl, HK, HO, HB⟩ := hrel
    by_cases hlt : k < n
    · obtain ⟨b, off, rfl, hb, hc⟩ := (HA.out.below HB.out) k hlt
      have i1 : (k : Int) < (n : Int) := by omega
      have i2 : (0 : Int) ≤ (k : Int) := by omega
      have HFK := Lib.hid (HF.out k)
      obtain ⟨x, hx⟩ : ∃ x, f k = x := ⟨_, rfl⟩
      rw [hx] at hc HFK
      have HX := Lib.hid hx
      have c0 := hc 0 _ rfl
      rw [Nat.add_zero] at c0
      have c1 := hc 1 _ rfl
      have c2 := hc 2 _ rfl
      have c3 := hc 3 _ rfl
      have c4 := hc 4 _ rfl
      have c5 := hc 5 _ rfl
      clear hc
      have hsz := HB.out.size
      have HS := Lib.hid hsz
      have hp0 : Pn ((wr.alloc (.cells (shC x) 27)).alloc (.cells #[strL' [], .bool true] 95)) (wr.heap.size + 1) [] true := by
        have := heap_alloc_new (wr.alloc (.cells (shC x) 27)) (.cells #[strL' [], .bool true] 95)
        unfold Pn Two
        simpa using this
      have HP0 := Lib.hid hp0
      have TE := Lib.hid (tell_sh x HFK.out (wr.heap.size + 1) _ HP0.out)
      have hb2 : Below w.heap.size w ((wr.alloc (.cells (shC x) 27)).alloc (.cells #[strL' [], .bool true] 95)) := (HB.out.alloc hsz _).alloc (by simp; omega) _
      have HB2 := Lib.hid hb2
      obtain ⟨t, ht⟩ : ∃ t, shT x = t := ⟨_, rfl⟩
      obtain ⟨q, hq⟩ : ∃ t, shP x = t := ⟨_, rfl⟩
      rw [ht, hq] at TE
      have HQ : Hid (shOk x = (t && q)) := Lib.hid (by rw [← ht, ← hq]; rfl)
      clear hx hb2 hp0 ht hq
      have hown := ownC_al (ownC_al HO.out (.cells (shC x) 27)) (.cells #[strL' [], .bool true] 95)
      have HW := Lib.hid hown
      clear hown
      obtain ⟨o', c', rfl, hcap, hen⟩ := row_en HO.out (by rw [List.length_map, rowL_len])
      clear hen
      go_upto_region 7 with (go_at_call 17; with_reducible refine TE.out.mono ?_; rintro e w1 ⟨rfl, hb1, hp1⟩)
      have hw1 := ownC_but HW.out hb1 (fun g hg => by have := (ownC_blk HO.out g hg).2; omega)
      obtain ⟨o2, c2, e2, _, hen⟩ := row_en hw1 (by rw [List.length_map, rowL_len])
      simp only [Value.slice.injEq, true_and] at e2
      obtain ⟨e2, e3⟩ := e2
      subst e2 e3
      have HW1 := Lib.hid hw1
      have HEN := Lib.hid hen
      have hb3 := HB2.out.trans (hb1.below (B := w.heap.size) (by omega) (by simp))
      have HB3 := Lib.hid hb3
      have hs3 := hb3.size
      have k0 := Two.c0 hp1.two
      have k1 := Two.c1 hp1.two
      clear hw1 hen hb3 hb1 hp1 TE HW HO HB2 HP0
      cases t
      case false =>
        go_wp2
        go_ret2
        exact ⟨.inr ⟨fun h => by have := (h k hlt).1; rw [HX.out, HQ.out] at this; simp at this, rfl⟩, HB3.out⟩
      case true =>
      cases q
      case false =>
        go_wp2
        go_ret2
        exact ⟨.inr ⟨fun h => by have := (h k hlt).1; rw [HX.out, HQ.out] at this; simp at this, rfl⟩, HB3.out⟩
      case true =>
      have HQ' : Hid (shOk (f k) = true) := Lib.hid (by rw [HX.out, HQ.out]; rfl)
      have main : ∀ (hK : 0 < k → (shE (f (k - 1))).k < (shE (f k)).k), Hid (AllOk shE shOk f (k + 1)) := fun hK => Lib.hid (HK.out.step HQ'.out hK)
      have MA := Lib.hid main
      clear main
      have hk5 : k ≤ 100000 := by omega
      cases k with
      | zero =>
        have HK2 := MA.out (fun h => absurd h (by omega))
        go_wp2_with (at_builtin; refine wpList_appown _ rfl (.tmp 52) (.tmp 59) 30 rfl i0 _ 2 32 Tryz.underlying30 hi hz0 hz1 hz2 rfl (by decide) rfl (ownC_al HW1.out _) w1.heap.size 1 #[strL' (shE x).k, strL' (shE x).v] 42 rfl (heap_alloc_new _ _) rfl ?d1 hk5 (by decide) ?d2 ?_)
        case d1 => exact ⟨rfl, rfl⟩
        case d2 => simp; omega
        intro v' w4 ho4 hg4
        have HO4 : Hid (w4.ownsRow w.heap.size 42 2 v' (0 + 1) (((rowL f (0 + 1)).map shE).flatMap enC)) := Lib.hid (by rw [keys_snoc, HX.out]; exact ho4)
        have HB4 : Hid (Below w.heap.size w w4) := Lib.hid ((HB3.out.alloc hs3 _).grown hg4 (by simp; omega) (fun g hg => (ownC_blk HW1.out g hg).1))
        clear ho4 hg4
        go_wp2
        go_roundg (n - (0 + 1))
        case measure => omega
        case rel => exact ⟨0 + 1, by omega, by go_num, HK2, HO4, HB4⟩
      | succ j =>
        obtain ⟨b2, off2, rfl, hb5, d0, d1⟩ := HEN.out j _ (keys_at shE f (by omega))
        clear d1
        have hj : ((j + 1 : Nat) : Int) - 1 = (j : Int) := by omega
        have hj2 : (j : Int) < ((j + 1 : Nat) : Int) := by omega
        by_cases hlt2 : (shE (f j)).k < (shE x).k
        · have HK2 := MA.out (fun _ => by rw [Nat.add_sub_cancel, HX.out]; exact hlt2)
          have hbl : Op.bytesLess (shE (f j)).k (shE x).k = true := by rw [bytesLess_lt]; exact decide_eq_true hlt2
          clear hlt2
          go_wp2_with (at_builtin; refine wpList_appown _ rfl (.tmp 52) (.tmp 59) 30 rfl i0 _ 2 32 Tryz.underlying30 hi hz0 hz1 hz2 rfl (by decide) rfl (ownC_al HW1.out _) w1.heap.size 1 #[strL' (shE x).k, strL' (shE x).v] 42 rfl (heap_alloc_new _ _) rfl ?d1 hk5 (by decide) ?d2 ?_)
          case d1 => exact ⟨rfl, rfl⟩
          case d2 => simp; omega
          intro v' w4 ho4 hg4
          have HO4 : Hid (w4.ownsRow w.heap.size 42 2 v' ((j + 1) + 1) (((rowL f ((j + 1) + 1)).map shE).flatMap enC)) := Lib.hid (by rw [keys_snoc, HX.out]; exact ho4)
          have HB4 : Hid (Below w.heap.size w w4) := Lib.hid ((HB3.out.alloc hs3 _).grown hg4 (by simp; omega) (fun g hg => (ownC_blk HW1.out g hg).1))
          clear ho4 hg4
          go_wp2
          go_roundg (n - ((j + 1) + 1))
          case measure => omega
          case rel => exact ⟨(j + 1) + 1, by omega, by go_num, HK2, HO4, HB4⟩
        · have HN : Hid (¬ AllOk shE shOk f n) := Lib.hid (fun h => by
            have := (h (j + 1) hlt).2 (by omega)
            rw [HX.out, Nat.add_sub_cancel] at this
            exact hlt2 this)
          have hbl : Op.bytesLess (shE (f j)).k (shE x).k = false := by rw [bytesLess_lt]; exact decide_eq_false hlt2
          clear hlt2
          go_wp2
          go_ret2
          exact ⟨.inr ⟨HN.out, rfl⟩, HB3.out⟩
    · obtain rfl : k = n := by omega
      go_wp2
      go_ret2
      exact ⟨.inl ⟨HK.out, _, rfl, by unfold EnO; rw [List.length_map, rowL_len]; exact HO.out⟩, HB.out⟩

end Go.Proofs.YtjakdbahopbggaaGreatDoor
