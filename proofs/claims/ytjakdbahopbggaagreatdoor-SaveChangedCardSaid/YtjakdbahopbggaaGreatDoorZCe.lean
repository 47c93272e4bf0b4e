/- What codec.Encode returns. Conditions: the tables as laid; the texts are not too long. -/
import Derived.Test.YtjakdbahopbggaaGreatDoorZK23
namespace Go.Proofs.YtjakdbahopbggaaGreatDoor
open Go.RowKit Go.Ow Go.Wi

/-- what Encode answers for a process that may be -/
def encR (x : Pr) : Value := if prW x || decide (4000 < (prB x).length + 4) then .tuple #[.string ⟨#[]⟩, .int .i64 40] else .tuple #[.string ⟨(prB x ++ sealL (prB x)).toArray⟩, .int .i64 0]

set_option maxRecDepth 100000 in
set_option maxHeartbeats 2000000 in
theorem enc_no {A : Nat → Nat × Nat} (x : Pr) (w : World) (hG : Gl A w) (h : x.at w) (hx : x.fit) (he : x.e ≠ 0) :
    Calls Tryz.prog 39 #[.agg x.cs] w fun r w' => r = .returned (.tuple #[.string ⟨#[]⟩, .int .i64 x.e]) ∧ Below w.heap.size w w' := by
  have HB := Lib.hid ((Below.refl w.heap.size w).alloc (Nat.le_refl _) (.cells x.cs 64))
  have PR := Lib.hid (proc_any x (w.alloc (.cells x.cs 64)) (hG.below HB.out) (h.below HB.out) hx)
  have e1 : ((x.e : Int) != 0) = true := by rw [bne_iff_ne]; omega
  clear hG h hx he
  go_enter Tryz.func39, Tryz.ntmps39
  go_wp2_with (go_at_call 66; refine PR.out.mono ?_; rintro e w1 ⟨rfl, hb⟩)
  go_ret2
  exact ⟨rfl, below_step HB.out hb⟩

set_option maxRecDepth 100000 in
set_option maxHeartbeats 8000000 in
theorem enc_yes {A : Nat → Nat × Nat} (x : Pr) (w : World) (hG : Gl A w) (h : x.at w) (hx : x.fit) (he : x.e = 0) (hw : x.fitW) (hl : (prB x).length ≤ 500000) :
    Calls Tryz.prog 39 #[.agg x.cs] w fun r w' => r = .returned (encR x) ∧ Below w.heap.size w w' := by
  have HB := Lib.hid ((Below.refl w.heap.size w).alloc (Nat.le_refl _) (.cells x.cs 64))
  have PR := Lib.hid (proc_any x (w.alloc (.cells x.cs 64)) (hG.below HB.out) (h.below HB.out) hx)
  rw [he] at PR
  have AT := Lib.hid h
  obtain ⟨f1, f2, f3, f4, f5, f6, f7⟩ := hw
  have F3 := Lib.hid f3
  have F4 := Lib.hid f4
  have FX := Lib.hid hx
  simp only [prB, List.length_append] at hl
  have HL := Lib.hid hl
  obtain ⟨L1, hL1⟩ : ∃ L, L = txt x.name := ⟨_, rfl⟩
  obtain ⟨L2, hL2⟩ : ∃ L, L = L1 ++ vsL x.vm x.vf := ⟨_, rfl⟩
  obtain ⟨L3, hL3⟩ : ∃ L, L = L2 ++ numL x.nn := ⟨_, rfl⟩
  obtain ⟨L4, hL4⟩ : ∃ L, L = L3 ++ nodsB x.nf 0 x.nn := ⟨_, rfl⟩
  obtain ⟨L5, hL5⟩ : ∃ L, L = L4 ++ numL x.fn := ⟨_, rfl⟩
  have H1 : Hid (∀ W, TxS W [] L1 false false 68 1 #[.string x.name] 9) := Lib.hid (fun W => by rw [hL1]; exact tx_text W [] false x.name f1 (by simp; omega))
  have z1 : L1.length = (txt x.name).length := by rw [hL1]
  have H2 : Hid (∀ W, TxV W L1 L2 false x.vo x.vm x.vc x.vf) := Lib.hid (fun W w hT hV hO => by rw [hL2]; exact vars_wr W _ _ x.vo x.vm x.vc x.vf w hT hV hO f5 f2 (by omega))
  have z2 : L2.length = L1.length + (vsL x.vm x.vf).length := by rw [hL2, List.length_append]
  have H3 : Hid (∀ W, TxS W L2 L3 false false 70 1 #[.int .i64 x.nn] 3) := Lib.hid (fun W => by rw [hL3]; exact tx_len W _ _ x.nn f6 (by omega))
  have z3 : L3.length = L2.length + (numL x.nn).length := by rw [hL3, List.length_append]
  have z4 : L4.length = L3.length + (nodsB x.nf 0 x.nn).length := by rw [hL4, List.length_append]
  have H5 : Hid (∀ W wd, TxS W L4 L5 wd wd 70 1 #[.int .i64 x.fn] 3) := Lib.hid (fun W wd => by rw [hL5]; exact tx_len W _ _ x.fn f7 (by omega))
  have z5 : L5.length = L4.length + (numL x.fn).length := by rw [hL5, List.length_append]
  have HP : Hid (prB x = L5 ++ flosB x.ff 0 x.fn) := Lib.hid (by rw [hL5, hL4, hL3, hL2, hL1]; simp only [prB, List.append_assoc])
  have HL3 : Hid (L3.length + (nodsB x.nf 0 x.nn).length ≤ 500000) := Lib.hid (by omega)
  have HL5 : Hid (L5.length + (flosB x.ff 0 x.fn).length ≤ 500000) := Lib.hid (by omega)
  have HL4 := Lib.hid hL4
  have hvO : ∀ W, w.heap.size ≤ W → Off x.vo x.vm W := fun W hW => Off.vr h.v hW
  have HvO := Lib.hid hvO
  clear hG h hx he f1 f2 f3 f4 hL1 hL2 hL3 hL4 hL5 z1 z2 z3 z4 z5 hl hvO
  go_enter Tryz.func39, Tryz.ntmps39
  go_wp2_with (first
    | (go_at_call 66; with_reducible refine PR.out.mono ?_; rintro e w1 ⟨rfl, hb⟩; have HB1 := Lib.hid (below_step HB.out hb); have BX1 := Lib.hid ((blk_new w x.cs 64).below hb (by simp)); have sz1 : w.heap.size < w1.heap.size := (by have := BX1.out.lt; omega); have ES1 : Hid (ES w x w1.heap.size [] false (w1.alloc (.cells #[.string ⟨#[]⟩, .bool false] 139))) := (Lib.hid (ES.new HB1.out BX1.out)); have k0 := ES1.out.box.c 0; clear hb)
    | (go_at_call 68; with_reducible refine (H1.out _ _ _ ES1.out.wt (by simp)).mono ?_; rintro e w2 ⟨rfl, hb, h2⟩; have ES2 := Lib.hid (ES1.out.step hb h2); have k1 := ES2.out.box.c 1; clear hb h2)
    | (go_at_call 69; with_reducible refine (H2.out _ _ ES2.out.wt (AT.out.v.below ES2.out.below) (HvO.out _ (by omega))).mono ?_; rintro e w3 ⟨rfl, hb, h2⟩; have ES3 := Lib.hid (ES2.out.step hb h2); have k2 := ES3.out.box.c 2; clear hb h2)
    | (go_at_call 70; with_reducible refine (H3.out _ _ _ ES3.out.wt rfl).mono ?_; rintro e w4 ⟨rfl, hb, h2⟩; have ES4 := Lib.hid (ES3.out.step hb h2); have k3 := ES4.out.box.c 2; clear hb h2))
  have HAT := Lib.hid (fun k (hk : k < x.nn) => let ⟨_, _, _, _, ha, _⟩ := AT.out.n k hk; (⟨ha.1, ha.2⟩ : Vr w (x.nf k).o (x.nf k).m (x.nf k).f ∧ Ss w (x.nf k).p (x.nf k).n (x.nf k).g))
  have SZ1 := Lib.hid sz1
  clear ES1 ES2 ES3 k0 k1 k2 k3 H1 H2 H3 PR HvO
  go_loopw [36] (fun i wr => ∃ (k : Nat) (p : List UInt8) (q : Bool), k ≤ x.nn ∧ i = .int .i64 k ∧ Hid (p ++ nodsB x.nf k (x.nn - k) = nodsB x.nf 0 x.nn) ∧ Hid ((q || nodsW x.nf k (x.nn - k)) = nodsW x.nf 0 x.nn) ∧ Hid (ES w x w1.heap.size (L3 ++ p) q wr)) (fun i _ => x.nn - (intOf i).toNat)
  case atStart => exact ⟨0, [], false, Nat.zero_le _, rfl, Lib.hid rfl, Lib.hid rfl, by rw [List.append_nil]; exact ES4⟩
  case round =>
    obtain ⟨k, p, q, hk, rfl, HPk, HQk, ESr⟩ := hrel
    by_cases hlt : k < x.nn
    · obtain ⟨b, off, hno, hb, -, y0, y1, y2, y3, y4, y5, y6, y7, y8, y9, y10⟩ := (AT.out.n.below ESr.out.below) k hlt
      have hfw := F3.out k hlt
      have hat := HAT.out k hlt
      have kb := (FX.out.2.2.1 k).1.2.1
      have eb := (FX.out.2.2.1 k).1.2.2.2.2.2.2.1
      have hlen : (p ++ nodsB x.nf k (x.nn - k)).length = (nodsB x.nf 0 x.nn).length := congrArg List.length HPk.out
      rw [nodsB_at x.nf k x.nn hlt, List.length_append, List.length_append] at hlen
      have HE := HPk.out
      rw [nodsB_at x.nf k x.nn hlt, ← List.append_assoc] at HE
      have HEW := HQk.out
      rw [nodsW_at x.nf k x.nn hlt, ← Bool.or_assoc] at HEW
      obtain ⟨v, hv⟩ : ∃ v, x.nf k = v := ⟨_, rfl⟩
      rw [hv] at y0 y1 y2 y3 y4 y5 y6 y7 y8 y9 y10 hfw hat hlen HE HEW kb eb
      obtain ⟨M1, M2, M3, M4, M5, M6, M7, q2, hM7, hq2, N1, N2, N3, N4, N5, N6, N7⟩ := node_hs w1.heap.size v (L3 ++ p) q hfw (by rw [List.length_append]; have := HL3.out; omega)
      have HE := Lib.hid HE
      have HEW := Lib.hid HEW
      have HV := Lib.hid hat
      have HOv := Lib.hid (Off.vr hat.1 (Nat.le_of_lt SZ1.out))
      have HOs := Lib.hid (Off.ss hat.2 (Nat.le_of_lt SZ1.out))
      have szr := Two.lt ESr.out.wt
      have szN : wr.heap.size ≠ w1.heap.size := by omega
      rw [hno]
      clear hv hfw hat hlen hno
      go_wp2_with (first
        | (with_reducible refine wpList_inc (o := ⟨some 51, _, _, _, _, _⟩) rfl _ _ _ _ rfl _ rfl rfl ?_)
        | (with_reducible refine wpList_inc (o := ⟨some 54, _, _, _, _, _⟩) rfl _ _ _ _ rfl _ rfl rfl ?_)
        | (go_at_call 68; with_reducible refine (N1.out (wr.alloc (.cells v.cs 111)) _ (ESr.out.wt.al _) (by simp)).mono ?_; rintro e w5 ⟨rfl, hb5, h5⟩; have E5 := Lib.hid (ESr.out.step ((But.alloc _ wr _).trans hb5) h5); have B5 := Lib.hid ((blk_new wr v.cs 111).but hb5 szN); have c1 := B5.out.c 1; have c2 := B5.out.c 2; have c3 := B5.out.c 3; have c4 := B5.out.c 4; clear hb5 h5)
        | (go_at_call 70; with_reducible refine (N2.out _ _ E5.out.wt rfl).mono ?_; rintro e w6 ⟨rfl, hb5, h5⟩; have E6 := Lib.hid (E5.out.step hb5 h5); have B6 := Lib.hid (B5.out.but hb5 szN); have c5 := B6.out.c 5; have c6 := B6.out.c 6; have c7 := B6.out.c 7; clear hb5 h5)
        | (go_at_call 68; with_reducible refine (N3.out _ _ E6.out.wt rfl).mono ?_; rintro e w7 ⟨rfl, hb5, h5⟩; have E7 := Lib.hid (E6.out.step hb5 h5); have B7 := Lib.hid (B6.out.but hb5 szN); have c8 := B7.out.c 8; clear hb5 h5)
        | (go_at_call 71; with_reducible refine (N4.out _ E7.out.wt).mono ?_; rintro e w8 ⟨rfl, hb5, h5⟩; have E8 := Lib.hid (E7.out.step hb5 h5); have B8 := Lib.hid (B7.out.but hb5 szN); have c9 := B8.out.c 9; clear hb5 h5)
        | (go_at_call 69; with_reducible refine (N5.out _ E8.out.wt (HV.out.1.below E8.out.below) HOv.out).mono ?_; rintro e w9 ⟨rfl, hb5, h5⟩; have E9 := Lib.hid (E8.out.step hb5 h5); have B9 := Lib.hid (B8.out.but hb5 szN); have c10 := B9.out.c 10; clear hb5 h5)
        | (go_at_call 70; with_reducible refine (N6.out _ _ E9.out.wt rfl).mono ?_; rintro e w10 ⟨rfl, hb5, h5⟩; have E10 := Lib.hid (E9.out.step hb5 h5); have B10 := Lib.hid (B9.out.but hb5 szN); have c11 := B10.out.c 10; clear hb5 h5)
        | (go_at_call 68; with_reducible refine (N7.out _ E10.out.wt (HV.out.2.below E10.out.below) HOs.out).mono ?_; rintro e w11 ⟨rfl, hb5, h5⟩; have E11 := Lib.hid (E10.out.step hb5 h5); clear hb5 h5))
      go_roundw
      case rel => exact ⟨k + 1, p ++ nodB v, q2, by omega, by go_num, HE, Lib.hid (by rw [hq2.out]; exact HEW.out), Lib.hid (by rw [← List.append_assoc, ← hM7.out]; exact E11.out)⟩
      case measure => simp [intOf]; omega
    · obtain rfl : k = x.nn := by omega
      have e1 : L3 ++ p = L4 := by have := HPk.out; rw [nodsB_end, List.append_nil] at this; rw [this, HL4.out]
      have e2 : q = nodsW x.nf 0 x.nn := by have := HQk.out; rw [nodsW_end, Bool.or_false] at this; exact this
      have ESq := ESr.out
      rw [e1] at ESq
      have ESq := Lib.hid ESq
      have E2 := Lib.hid e2
      have k3 := ESq.out.box.c 3
      clear e1 e2 ESr HPk HQk hlt hk
      go_wp2_with (go_at_call 70; with_reducible refine (H5.out _ _ _ _ ESq.out.wt rfl).mono ?_; rintro e w5 ⟨rfl, hb, h2⟩; have ES5 := Lib.hid (ESq.out.step hb h2); have k4 := ES5.out.box.c 3; clear hb h2)
      clear ESq k3
      go_loopw [97] (fun i wr => ∃ (k : Nat) (p : List UInt8) (q' : Bool), k ≤ x.fn ∧ i = .int .i64 k ∧ Hid (p ++ flosB x.ff k (x.fn - k) = flosB x.ff 0 x.fn) ∧ Hid ((q' || flosW x.ff k (x.fn - k)) = (q || flosW x.ff 0 x.fn)) ∧ Hid (ES w x w1.heap.size (L5 ++ p) q' wr)) (fun i _ => x.fn - (intOf i).toNat)
      case atStart => exact ⟨0, [], q, Nat.zero_le _, rfl, Lib.hid rfl, Lib.hid rfl, by rw [List.append_nil]; exact ES5⟩
      case round =>
        clear ES5 k4
        obtain ⟨k, p, q', hk, rfl, HPk, HQk, ESr⟩ := hrel
        by_cases hlt : k < x.fn
        · obtain ⟨b, off, hno, hb, y0, y1, y2, y3⟩ := (AT.out.f.below ESr.out.below) k hlt
          have hfw := F4.out k hlt
          have hlen : (p ++ flosB x.ff k (x.fn - k)).length = (flosB x.ff 0 x.fn).length := congrArg List.length HPk.out
          rw [flosB_at x.ff k x.fn hlt, List.length_append, List.length_append] at hlen
          have HE := HPk.out
          rw [flosB_at x.ff k x.fn hlt, ← List.append_assoc] at HE
          have HEW := HQk.out
          rw [flosW_at x.ff k x.fn hlt, ← Bool.or_assoc] at HEW
          obtain ⟨v, hv⟩ : ∃ v, x.ff k = v := ⟨_, rfl⟩
          rw [hv] at y0 y1 y2 y3 hfw hlen HE HEW
          obtain ⟨M1, M2, M3, q2, hM3, hq2, N1, N2, N3⟩ := flow_hs w1.heap.size v (L5 ++ p) q' hfw (by rw [List.length_append]; have := HL5.out; omega)
          have HE := Lib.hid HE
          have HEW := Lib.hid HEW
          have szr := Two.lt ESr.out.wt
          have szN : wr.heap.size ≠ w1.heap.size := by omega
          rw [hno]
          clear hv hfw hlen hno
          go_wp2_with (first
            | (go_at_call 70; with_reducible refine (N1.out (wr.alloc (.cells (flowC v) 114)) _ (ESr.out.wt.al _) (by simp)).mono ?_; rintro e w6 ⟨rfl, hb5, h5⟩; have E6 := Lib.hid (ESr.out.step ((But.alloc _ wr _).trans hb5) h5); have B6 := Lib.hid ((blk_new wr (flowC v) 114).but hb5 szN); have c1 := B6.out.c 2; clear hb5 h5)
            | (go_at_call 68; with_reducible refine (N2.out _ _ E6.out.wt rfl).mono ?_; rintro e w7 ⟨rfl, hb5, h5⟩; have E7 := Lib.hid (E6.out.step hb5 h5); have B7 := Lib.hid (B6.out.but hb5 szN); have c8 := B7.out.c 3; clear hb5 h5)
            | (go_at_call 71; with_reducible refine (N3.out _ E7.out.wt).mono ?_; rintro e w8 ⟨rfl, hb5, h5⟩; have E8 := Lib.hid (E7.out.step hb5 h5); clear hb5 h5))
          go_roundw
          case rel => exact ⟨k + 1, p ++ floB v, q2, by omega, by go_num, HE, Lib.hid (by rw [hq2.out]; exact HEW.out), Lib.hid (by rw [← List.append_assoc, ← hM3.out]; exact E8.out)⟩
          case measure => simp [intOf]; omega
        · obtain rfl : k = x.fn := by omega
          have e1 : L5 ++ p = prB x := by have := HPk.out; rw [flosB_end, List.append_nil] at this; rw [this, HP.out]
          have e2 : q' = prW x := by have := HQk.out; rw [flosW_end, Bool.or_false] at this; rw [this, E2.out]; rfl
          have ESq := ESr.out
          rw [e1, e2] at ESq
          have SA := fun (w1 : World) => seal_any ⟨(prB x).toArray⟩ w1 (by rw [mk_size]; have := HP.out; have := HL5.out; rw [HP.out, List.length_append]; omega)
          rw [show (⟨(prB x).toArray⟩ : ByteArray).data.toList = prB x by simp] at SA
          have z1 := mk_size (prB x)
          have z2 : (⟨(sealL (prB x)).toArray⟩ : ByteArray).size = 4 := by rw [mk_size, sealL_len]
          have z3 : ((⟨(prB x).toArray⟩ : ByteArray) ++ ⟨(sealL (prB x)).toArray⟩).size = (prB x).length + 4 := by rw [ByteArray.size_append, z1, z2]
          have hn : (prB x).length ≤ 500000 := by rw [HP.out, List.length_append]; exact HL5.out
          have HR : Hid (encR x = if prW x || decide (4000 < (prB x).length + 4) then .tuple #[.string ⟨#[]⟩, .int .i64 40] else .tuple #[.string (⟨(prB x).toArray⟩ ++ ⟨(sealL (prB x)).toArray⟩), .int .i64 0]) := Lib.hid (by unfold encR; rw [append_cat', cat_mk])
          obtain ⟨P, hP⟩ : ∃ P, prB x = P := ⟨_, rfl⟩
          obtain ⟨Q, hQ⟩ : ∃ Q, sealL P = Q := ⟨_, rfl⟩
          obtain ⟨d, hd⟩ : ∃ d, prW x = d := ⟨_, rfl⟩
          rw [hP, hd] at ESq
          rw [hP, hQ] at SA HR
          rw [hd] at HR
          rw [hP] at z1 z2 z3 hn
          rw [hQ] at z2 z3
          have SA := Lib.hid SA
          have t0 := Two.c0 ESq.wt
          have t1 := Two.c1 ESq.wt
          have ES6 := Lib.hid ESq
          have hTd : Two wr.drew w1.heap.size 139 (strL' P) (.bool d) := ESq.wt
          have HTd := Lib.hid hTd
          clear hTd
          clear e1 e2 ESq ESr HPk HQk hlt hk hP hQ hd
          go_wp2
          go_region_with (go_at_call 59; with_reducible refine (SA.out _).mono ?_; rintro e w9 ⟨rfl, hb9⟩; have hT9 := Two.keptB HTd.out hb9 (Two.lt HTd.out); have t2 := Two.c0 hT9; have t3 := Two.c1 hT9)
          all_goals
            have HB9 := Lib.hid (below_step ES6.out.below.drew hb9)
            clear hb9
            cases d
            · by_cases hc : 4000 < P.length + 4
              · have HR2 : Hid (encR x = .tuple #[.string ⟨#[]⟩, .int .i64 40]) := Lib.hid (by rw [HR.out]; simp [hc])
                go_wp2
                go_ret2
                exact ⟨congrArg Ending.returned HR2.out.symm, HB9.out⟩
              · have HR2 : Hid (encR x = .tuple #[.string (⟨P.toArray⟩ ++ ⟨Q.toArray⟩), .int .i64 0]) := Lib.hid (by rw [HR.out]; simp [hc])
                go_wp2
                go_ret2
                exact ⟨congrArg Ending.returned HR2.out.symm, HB9.out⟩
            · have HR2 : Hid (encR x = .tuple #[.string ⟨#[]⟩, .int .i64 40]) := Lib.hid (by rw [HR.out]; simp)
              go_wp2
              go_ret2
              exact ⟨congrArg Ending.returned HR2.out.symm, HB9.out⟩
end Go.Proofs.YtjakdbahopbggaaGreatDoor
