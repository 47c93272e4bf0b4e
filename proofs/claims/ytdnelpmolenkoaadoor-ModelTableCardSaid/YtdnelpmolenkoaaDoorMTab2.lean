/- callboardlaw14.ModelTable returns true: the walk. Conditions: the tables as laid; lengths are lengths. -/
import Derived.Test.YtdnelpmolenkoaaDoorMTab
import Derived.Test.YtdnelpmolenkoaaDoorMLarge
import Derived.Test.YtdnelpmolenkoaaDoorMawake
import Derived.Test.YtdnelpmolenkoaaDoorMOpen
import Derived.Deep.DeepCutAuto
namespace Go.Proofs.YtdnelpmolenkoaaDoor
open Go.RowKit Go.Ow

def flZ : Fl := ⟨0, 0, ⟨#[]⟩, false⟩
theorem flZ_fit : flZ.fit := ⟨by decide, by decide, by decide, by decide, emp_le⟩
/-- the process of one node that the law asks large of -/
def lone (x : Nod) (S : Nat) : Pr := ⟨⟨#[]⟩, none, 0, 0, fun _ => vaZ, some ⟨S, 0, none⟩, 1, 1, fun _ => x, none, 0, 0, fun _ => flZ⟩
theorem lone_fit {x : Nod} (h : x.fit) (S : Nat) : (lone x S).fit :=
  ⟨emp_le, fun _ => vaZ_fit, fun _ => h, fun _ => flZ_fit, (by decide : 0 ≤ 9223372036854775807), (by decide : 1 ≤ 9223372036854775807), (by decide : 0 ≤ 9223372036854775807), Nat.le_refl 0, Nat.le_refl 1, Nat.le_refl 0⟩
theorem lone_at {x : Nod} {w : World} (h : x.at w) : (lone x w.heap.size).at (w.alloc (.cells x.cs 25)) := by
  refine ⟨fun k hk => absurd hk (Nat.not_lt_zero k), fun k hk => ?_, fun k hk => absurd hk (Nat.not_lt_zero k)⟩
  have hk' : k < 1 := hk
  obtain rfl : k = 0 := by omega
  refine ⟨w.heap.size, 0, rfl, by simp, h.below ((Below.refl _ _).alloc (Nat.le_refl _) _), ?_⟩
  simp [lone]

set_option maxRecDepth 100000 in
set_option maxHeartbeats 16000000 in
theorem table_run {A : Nat → Nat × Nat} (x : Nod) (kind event : Nat) (w : World) (hG : Gl A w) (h : x.at w) (hx : x.fit) (hk : kind < 256) (he : event < 256) :
    Calls Tryd.prog 3 #[.agg x.cs, .int .u8 kind, .int .u8 event] w fun r w' => r = .returned (.bool true) ∧ Below w.heap.size w w' := by
  have HB0 := Lib.hid ((Below.refl w.heap.size w).alloc (Nat.le_refl _) (.cells x.cs 25))
  obtain ⟨W0, hW0⟩ : ∃ W, w.alloc (.cells x.cs 25) = W := ⟨_, rfl⟩
  have LG : Calls Tryd.prog 9 #[.agg #[.string ⟨#[]⟩, .slice none 0 0, .slice (some ⟨w.heap.size + 1, 0, none⟩) 1 1, .slice none 0 0]] ((w.alloc (.cells x.cs 25)).alloc (.cells x.cs 25)) (LargeP (lone x (w.heap.size + 1)) ((w.alloc (.cells x.cs 25)).alloc (.cells x.cs 25))) := by
    have := large_any (lone x (w.alloc (.cells x.cs 25)).heap.size) _ (lone_at (h.below HB0.out)) (lone_fit hx _)
    simpa [lone] using this
  have LG := Lib.hid LG
  have AW := Lib.hid (fun (W : World) (hb : Below w.heap.size w W) => mawake_true W (hG.below hb))
  have NM := fun (W : World) (hb : Below w.heap.size w W) => name_any x.d.name W (hG.below hb) hx.1.1
  have EV := fun (k e : Nat) (W : World) (hb : Below w.heap.size w W) (h : k < 256) => event_any k e W (hG.below hb) h
  have ND := fun (y : Nod) (hf : y.fit) (ha : y.at w) (W : World) (hb : Below w.heap.size w W) => node_all y W (hG.below hb) (ha.below hb) hf
  have hl : w.heap.size < W0.heap.size := by rw [← hW0]; simp
  have BX : Hid (∀ W : World, Below W0.heap.size W0 W → W.cell? ⟨w.heap.size, 0, none⟩ = some (.string x.d.name) ∧ W.cell? ⟨w.heap.size, 1, none⟩ = some (.int .u8 x.d.kind) ∧ W.cell? ⟨w.heap.size, 2, none⟩ = some (.int .i64 x.d.inn) ∧ W.cell? ⟨w.heap.size, 3, none⟩ = some (.int .i64 x.d.on) ∧ W.cell? ⟨w.heap.size, 4, none⟩ = some (.int .u8 x.d.event) ∧ W.cell? ⟨w.heap.size, 5, none⟩ = some (.string x.d.key) ∧ W.cell? ⟨w.heap.size, 6, none⟩ = some (.string x.d.text) ∧ W.cell? ⟨w.heap.size, 7, none⟩ = some (.string x.d.set) ∧ W.cell? ⟨w.heap.size, 8, none⟩ = some (.bool x.d.breaks) ∧ W.cell? ⟨w.heap.size, 9, none⟩ = some (.slice x.o x.m x.c) ∧ W.cell? ⟨w.heap.size, 10, none⟩ = some (.slice x.p x.n x.q)) := Lib.hid (fun W hb => by
    simp only [fun o => hb.cell (p := ⟨w.heap.size, o, none⟩) hl]
    rw [← hW0]
    simp)
  have BW : Hid (∀ W : World, Below W0.heap.size W0 W → Below w.heap.size w W) := Lib.hid (fun W hb => below_step (by rw [← hW0]; exact HB0.out) hb)
  have HB1 : Hid (Below W0.heap.size W0 ((w.alloc (.cells x.cs 25)).alloc (.cells x.cs 25))) := Lib.hid (by rw [← hW0]; exact (Below.refl _ _).alloc (Nat.le_refl _) _)
  have HX := Lib.hid hx
  have AT := Lib.hid h
  have HW := Lib.hid hW0
  have HK0 := Lib.hid (anyE_all kind)
  clear hG h hW0 hl
  have ND := Lib.hid ND
  have EV := Lib.hid EV
  have NM := Lib.hid NM
  obtain ⟨f1, f2, f3, f4, f5, f6, f7⟩ := hx
  clear f2 f3
  go_enter Tryd.func3, Tryd.ntmps3
  go_wp2_with fail
  refine LG.out.mono ?_
  rintro e w1 ⟨b, rfl, -, hb⟩
  have HB2 := Lib.hid (below_step HB1.out hb)
  clear hb
  cases b
  case true =>
    go_wp2_with (go_at_call 10; refine (AW.out _ (BW.out _ HB2.out)).mono ?_; rintro e w2 ⟨rfl, hb2⟩)
    go_ret
    exact ⟨rfl, below_step (BW.out _ HB2.out) hb2⟩
  case false =>
    go_wp2_with (go_at_call 10; refine (AW.out _ (BW.out _ HB2.out)).mono ?_; rintro e w2 ⟨rfl, hb2⟩; have HB3 := Lib.hid (below_step HB2.out hb2); clear hb2)
    go_loopw [7, 8] (fun s i wr => ∃ k : Nat, k ≤ 256 ∧ i = .int .i64 k ∧ s = .bool (anyE kind k) ∧ Below W0.heap.size W0 wr) (fun _ i _ => 256 - (intOf i).toNat)
    case atStart => exact ⟨0, by omega, rfl, rfl, HB3.out⟩
    case round =>
      obtain ⟨k, hkk, rfl, rfl, hB⟩ := hrel
      have HB := Lib.hid hB
      clear hB
      by_cases hlt : k < 256
      · have HA : Hid (anyE kind (k + 1) = (anyE kind k || evB kind k)) := Lib.hid rfl
        obtain ⟨a, ha⟩ : ∃ a, anyE kind k = a := ⟨_, rfl⟩
        rw [ha] at HA ⊢
        clear ha
        cases a
        · have uw : IntKind.u8.wrap (k : Int) = k := by simp [IntKind.wrap, IntKind.signed, IntKind.bits]; omega
          have E1 := Lib.hid (EV.out kind k wr (BW.out _ HB.out) hk)
          go_wp2_with (go_at_call 11; refine E1.out.mono ?_; rintro e w3 ⟨rfl, rfl⟩)
          go_roundw
          case rel => exact ⟨k + 1, by omega, by go_num, by rw [HA.out]; simp, HB.out⟩
          case measure => simp [intOf]; omega
        · go_wp2
          go_roundw
          case rel => exact ⟨k + 1, by omega, by go_num, by rw [HA.out]; simp, HB.out⟩
          case measure => simp [intOf]; omega
      · obtain rfl : k = 256 := by omega
        rw [HK0.out]
        go_upto_region 8 with fail
        go_cut [7, 37] (fun _ s W => s = .bool false ∧ wr = W)
        case first =>
          by_cases c1 : 1 ≤ kind
          · by_cases c2 : kind ≤ 15
            · go_wp2_with fail
              go_meet
              exact ⟨by simp; omega, rfl⟩
            · have c2' : 15 < kind := by omega
              go_wp2_with fail
              go_meet
              exact ⟨by simp; omega, rfl⟩
          · have c1' : kind < 1 := by omega
            go_wp2_with fail
            go_meet
            exact ⟨by simp, rfl⟩
        case rest =>
          obtain ⟨rfl, rfl⟩ := hcut
          obtain ⟨W1, hW1⟩ : ∃ W : World, W = wr := ⟨_, rfl⟩
          subst hW1
          obtain ⟨q0, q1, q2, q3, q4, q5, q6, q7, q8, q9, q10⟩ := BX.out _ HB.out
          have N1 := ND.out x HX.out AT.out W1 (BW.out _ HB.out)
          have hek := x.e_cases
          rcases hek with e0 | e0 | e0
          · rw [e0] at N1
            have N1 := Lib.hid N1
            have T1 := Lib.hid (nodeE_ev e0)
            have T2 := Lib.hid (fun hm => nodeE_vars e0 hm)
            have T3 := Lib.hid (nodeE_on e0)
            have T4 := Lib.hid (nodeE_set e0)
            clear e0
            go_upto_region 12 with (go_at_call 12; refine N1.out.mono ?_; rintro e w3 ⟨rfl, hb3⟩; have HB4 := Lib.hid (below_step HB.out hb3); clear hb3)
            obtain ⟨y0, y1, y2, y3, y4, y5, y6, y7, y8, y9, y10⟩ := BX.out _ HB4.out
            have E1 := EV.out x.d.kind x.d.event w3 (BW.out _ HB4.out) f1.2.1
            have N2 := NM.out w3 (BW.out _ HB4.out)
            rw [T1.out.2] at E1
            rw [T1.out.1] at N2
            have E1 := Lib.hid E1
            have N2 := Lib.hid N2
            go_cut [82] (fun s W => s = .bool false ∧ Below W0.heap.size W0 W)
            case first =>
              by_cases m0 : x.m = 0
              · have m1 : ¬ 0 < x.m := by omega
                by_cases k15 : x.d.kind = 15
                · have d1 : ((x.d.kind : Int) == 15) = true := b8 k15
                  have d2 : ((x.d.kind : Int) == 4) = false := b8n (show ¬ x.d.kind = 4 by omega)
                  have d3 : (0 : Int) ≤ x.d.on := T3.out.2 k15
                  have d4 := bytes_nil (t := x.d.set) (by by_cases q : x.d.set.size = 0; exact q; exact absurd (T4.out.1 q) (by omega))
                  clear k15
                  go_wp2_with (first | (go_at_call 11; refine E1.out.mono ?_; rintro e w4 ⟨rfl, rfl⟩) | (go_at_call 13; refine N2.out.mono ?_; rintro e w5 ⟨rfl, hb5⟩; have HB5 := Lib.hid (below_step HB4.out hb5); obtain ⟨z0, z1, z2, z3, z4, z5, z6, z7, z8, z9, z10⟩ := BX.out _ HB5.out; clear hb5))
                  go_meet
                  exact ⟨by simp, HB5.out⟩
                · have d1 : ((x.d.kind : Int) == 15) = false := b8n k15
                  have d3 : x.d.on < (0 : Int) := by have := T3.out; omega
                  by_cases k4 : x.d.kind = 4
                  · have d2 : ((x.d.kind : Int) == 4) = true := b8 k4
                    have d4 := bytes_ne (T4.out.2 k4)
                    have d5 := bytes_emp (T4.out.2 k4)
                    clear k15 k4
                    go_wp2_with (first | (go_at_call 11; refine E1.out.mono ?_; rintro e w4 ⟨rfl, rfl⟩) | (go_at_call 13; refine N2.out.mono ?_; rintro e w5 ⟨rfl, hb5⟩; have HB5 := Lib.hid (below_step HB4.out hb5); obtain ⟨z0, z1, z2, z3, z4, z5, z6, z7, z8, z9, z10⟩ := BX.out _ HB5.out; clear hb5))
                    go_meet
                    exact ⟨by simp [d3], HB5.out⟩
                  · have d2 : ((x.d.kind : Int) == 4) = false := b8n k4
                    have d4 := bytes_nil (t := x.d.set) (by by_cases q : x.d.set.size = 0; exact q; exact absurd (T4.out.1 q) (by omega))
                    clear k15 k4
                    go_wp2_with (first | (go_at_call 11; refine E1.out.mono ?_; rintro e w4 ⟨rfl, rfl⟩) | (go_at_call 13; refine N2.out.mono ?_; rintro e w5 ⟨rfl, hb5⟩; have HB5 := Lib.hid (below_step HB4.out hb5); obtain ⟨z0, z1, z2, z3, z4, z5, z6, z7, z8, z9, z10⟩ := BX.out _ HB5.out; clear hb5))
                    go_meet
                    exact ⟨by simp [d3], HB5.out⟩
              · have m1 : 0 < x.m := by omega
                have SC := fun (W : World) => scope_any x.d.kind W
                simp only [T2.out m1] at SC
                have SC := Lib.hid SC
                by_cases k15 : x.d.kind = 15
                · have d1 : ((x.d.kind : Int) == 15) = true := b8 k15
                  have d2 : ((x.d.kind : Int) == 4) = false := b8n (show ¬ x.d.kind = 4 by omega)
                  have d3 : (0 : Int) ≤ x.d.on := T3.out.2 k15
                  have d4 := bytes_nil (t := x.d.set) (by by_cases q : x.d.set.size = 0; exact q; exact absurd (T4.out.1 q) (by omega))
                  clear k15
                  go_wp2_with (first | (go_at_call 11; refine E1.out.mono ?_; rintro e w4 ⟨rfl, rfl⟩) | (go_at_call 13; refine N2.out.mono ?_; rintro e w5 ⟨rfl, hb5⟩; have HB5 := Lib.hid (below_step HB4.out hb5); obtain ⟨z0, z1, z2, z3, z4, z5, z6, z7, z8, z9, z10⟩ := BX.out _ HB5.out; clear hb5) | (go_at_call 14; refine (SC.out _).mono ?_; rintro e w6 ⟨rfl, hb6⟩; have HB6 := Lib.hid (below_step HB5.out hb6); obtain ⟨p0, p1, p2, p3, p4, p5, p6, p7, p8, p9, p10⟩ := BX.out _ HB6.out; clear hb6))
                  go_meet
                  exact ⟨by simp, HB6.out⟩
                · have d1 : ((x.d.kind : Int) == 15) = false := b8n k15
                  have d3 : x.d.on < (0 : Int) := by have := T3.out; omega
                  by_cases k4 : x.d.kind = 4
                  · have d2 : ((x.d.kind : Int) == 4) = true := b8 k4
                    have d4 := bytes_ne (T4.out.2 k4)
                    have d5 := bytes_emp (T4.out.2 k4)
                    clear k15 k4
                    go_wp2_with (first | (go_at_call 11; refine E1.out.mono ?_; rintro e w4 ⟨rfl, rfl⟩) | (go_at_call 13; refine N2.out.mono ?_; rintro e w5 ⟨rfl, hb5⟩; have HB5 := Lib.hid (below_step HB4.out hb5); obtain ⟨z0, z1, z2, z3, z4, z5, z6, z7, z8, z9, z10⟩ := BX.out _ HB5.out; clear hb5) | (go_at_call 14; refine (SC.out _).mono ?_; rintro e w6 ⟨rfl, hb6⟩; have HB6 := Lib.hid (below_step HB5.out hb6); obtain ⟨p0, p1, p2, p3, p4, p5, p6, p7, p8, p9, p10⟩ := BX.out _ HB6.out; clear hb6))
                    go_meet
                    exact ⟨by simp [d3], HB6.out⟩
                  · have d2 : ((x.d.kind : Int) == 4) = false := b8n k4
                    have d4 := bytes_nil (t := x.d.set) (by by_cases q : x.d.set.size = 0; exact q; exact absurd (T4.out.1 q) (by omega))
                    clear k15 k4
                    go_wp2_with (first | (go_at_call 11; refine E1.out.mono ?_; rintro e w4 ⟨rfl, rfl⟩) | (go_at_call 13; refine N2.out.mono ?_; rintro e w5 ⟨rfl, hb5⟩; have HB5 := Lib.hid (below_step HB4.out hb5); obtain ⟨z0, z1, z2, z3, z4, z5, z6, z7, z8, z9, z10⟩ := BX.out _ HB5.out; clear hb5) | (go_at_call 14; refine (SC.out _).mono ?_; rintro e w6 ⟨rfl, hb6⟩; have HB6 := Lib.hid (below_step HB5.out hb6); obtain ⟨p0, p1, p2, p3, p4, p5, p6, p7, p8, p9, p10⟩ := BX.out _ HB6.out; clear hb6))
                    go_meet
                    exact ⟨by simp [d3], HB6.out⟩
            case rest =>
              obtain ⟨rfl, hBW⟩ := hcut
              have HB7 := Lib.hid hBW
              clear hBW
              obtain ⟨z0, z1, z2, z3, z4, z5, z6, z7, z8, z9, z10⟩ := BX.out _ HB7.out
              go_upto_region 16 with fail
              obtain ⟨W3, hW3⟩ : ∃ W, wc.alloc (.cells #[.string x.d.name, .int .u8 kind, .int .i64 x.d.inn, .int .i64 x.d.on, .int .u8 x.d.event, .string x.d.key, .string x.d.text, .string x.d.set, .bool x.d.breaks, .slice x.o x.m x.c, .slice x.p x.n x.q] 25) = W := ⟨_, rfl⟩
              rw [hW3]
              have HB8 : Hid (Below W0.heap.size W0 W3) := Lib.hid (by rw [← hW3]; exact (HB7.out).alloc HB7.out.size _)
              have BY : Hid (∀ W : World, Below W3.heap.size W3 W → (W.cell? ⟨wc.heap.size, 0, none⟩ = some (.string x.d.name) ∧ W.cell? ⟨wc.heap.size, 1, none⟩ = some (.int .u8 kind) ∧ W.cell? ⟨wc.heap.size, 2, none⟩ = some (.int .i64 x.d.inn) ∧ W.cell? ⟨wc.heap.size, 3, none⟩ = some (.int .i64 x.d.on) ∧ W.cell? ⟨wc.heap.size, 4, none⟩ = some (.int .u8 x.d.event) ∧ W.cell? ⟨wc.heap.size, 5, none⟩ = some (.string x.d.key) ∧ W.cell? ⟨wc.heap.size, 6, none⟩ = some (.string x.d.text) ∧ W.cell? ⟨wc.heap.size, 7, none⟩ = some (.string x.d.set) ∧ W.cell? ⟨wc.heap.size, 8, none⟩ = some (.bool x.d.breaks) ∧ W.cell? ⟨wc.heap.size, 9, none⟩ = some (.slice x.o x.m x.c) ∧ W.cell? ⟨wc.heap.size, 10, none⟩ = some (.slice x.p x.n x.q)) ∧ ∀ o, W.frozen? ⟨wc.heap.size, o, none⟩ = false) := Lib.hid (fun W hb => by
                have hl3 : wc.heap.size < W3.heap.size := by rw [← hW3]; simp
                simp only [fun o => hb.cell (p := ⟨wc.heap.size, o, none⟩) hl3, fun o => hb.frozen (p := ⟨wc.heap.size, o, none⟩) hl3]
                rw [← hW3]
                simp)
              have hl3 : Hid (W0.heap.size ≤ wc.heap.size) := Lib.hid HB7.out.size
              clear hW3
              obtain ⟨y0, y1, y2, y3, y4, y5, y6, y7, y8, y9, y10⟩ := BX.out _ HB8.out
              obtain ⟨⟨x0, x1, x2, x3, x4, x5, x6, x7, x8, x9, x10⟩, xf⟩ := BY.out _ (Below.refl _ _)
              have E2 := EV.out kind x.d.event W3 (BW.out _ HB8.out) hk
              have hys : ({ x with d := { x.d with kind := kind } } : Nod).fit := ⟨⟨HX.out.1.1, hk, HX.out.1.2.2⟩, HX.out.2⟩
              have hye : evB kind x.d.event = false → ({ x with d := { x.d with kind := kind } } : Nod).e ≠ 0 := fun h0 he => by
                have := (nodeE_ev he).2
                rw [h0] at this
                cases this
              have N3 := ND.out ({ x with d := { x.d with kind := kind } } : Nod) hys AT.out W3 (BW.out _ HB8.out)
              obtain ⟨v3, hv3⟩ : ∃ v, ({ x with d := { x.d with kind := kind } } : Nod).e = v := ⟨_, rfl⟩
              rw [hv3] at N3 hye
              have N3 := Lib.hid N3
              clear hv3 hys
              cases hev : evB kind x.d.event
              case false =>
                rw [hev] at E2
                have E2 := Lib.hid E2
                have v3n : ((v3 : Int) == 0) = false := b8n (hye hev)
                clear hev hye
                go_upto_region 20 with (first | (go_at_call 11; refine E2.out.mono ?_; rintro e w4 ⟨rfl, rfl⟩) | (go_at_call 12; refine N3.out.mono ?_; rintro e w4 ⟨rfl, hb4⟩; obtain ⟨⟨p0, p1, p2, p3, p4, p5, p6, p7, p8, p9, p10⟩, pf⟩ := BY.out _ hb4; have HB9 := Lib.hid (below_step HB8.out hb4); obtain ⟨s0, s1, s2, s3, s4, s5, s6, s7, s8, s9, s10⟩ := BX.out _ HB9.out; clear hb4))
                obtain ⟨W5, hW5⟩ : ∃ W, ((((((((((((w4.setCell ⟨wc.heap.size, 0, none⟩ (.string x.d.name)).setCell ⟨wc.heap.size, 1, none⟩ (.int .u8 x.d.kind)).setCell ⟨wc.heap.size, 2, none⟩ (.int .i64 x.d.inn)).setCell ⟨wc.heap.size, 3, none⟩ (.int .i64 x.d.on)).setCell ⟨wc.heap.size, 4, none⟩ (.int .u8 x.d.event)).setCell ⟨wc.heap.size, 5, none⟩ (.string x.d.key)).setCell ⟨wc.heap.size, 6, none⟩ (.string x.d.text)).setCell ⟨wc.heap.size, 7, none⟩ (.string x.d.set)).setCell ⟨wc.heap.size, 8, none⟩ (.bool x.d.breaks)).setCell ⟨wc.heap.size, 9, none⟩ (.slice x.o x.m x.c)).setCell ⟨wc.heap.size, 10, none⟩ (.slice x.p x.n x.q)).setCell ⟨wc.heap.size, 4, none⟩ (.int .u8 event)) = W := ⟨_, rfl⟩
                rw [hW5]
                have HC : Hid (Below W0.heap.size W0 W5) := Lib.hid (by rw [← hW5]; exact ((((((((((((HB9.out.setCell hl3.out _).setCell hl3.out _).setCell hl3.out _).setCell hl3.out _).setCell hl3.out _).setCell hl3.out _).setCell hl3.out _).setCell hl3.out _).setCell hl3.out _).setCell hl3.out _).setCell hl3.out _).setCell hl3.out _))
                have hcs : W5.cell? ⟨wc.heap.size, 0, none⟩ = some (.string x.d.name) ∧ W5.cell? ⟨wc.heap.size, 1, none⟩ = some (.int .u8 x.d.kind) ∧ W5.cell? ⟨wc.heap.size, 2, none⟩ = some (.int .i64 x.d.inn) ∧ W5.cell? ⟨wc.heap.size, 3, none⟩ = some (.int .i64 x.d.on) ∧ W5.cell? ⟨wc.heap.size, 4, none⟩ = some (.int .u8 event) ∧ W5.cell? ⟨wc.heap.size, 5, none⟩ = some (.string x.d.key) ∧ W5.cell? ⟨wc.heap.size, 6, none⟩ = some (.string x.d.text) ∧ W5.cell? ⟨wc.heap.size, 7, none⟩ = some (.string x.d.set) ∧ W5.cell? ⟨wc.heap.size, 8, none⟩ = some (.bool x.d.breaks) ∧ W5.cell? ⟨wc.heap.size, 9, none⟩ = some (.slice x.o x.m x.c) ∧ W5.cell? ⟨wc.heap.size, 10, none⟩ = some (.slice x.p x.n x.q) := by
                  rw [← hW5]
                  refine ⟨?_, ?_, ?_, ?_, World.cell?_setCell_same _ _ _ (u := .int .u8 x.d.event) ?_, ?_, ?_, ?_, ?_, ?_, ?_⟩
                  all_goals simp [go_sem, p0, p1, p2, p3, p4, p5, p6, p7, p8, p9, p10]
                clear hW5 p0 p1 p2 p3 p4 p5 p6 p7 p8 p9 p10 pf
                obtain ⟨c0, c1, c2, c3, c4, c5, c6, c7, c8, c9, c10⟩ := hcs
                obtain ⟨t0, t1, t2, t3, t4, t5, t6, t7, t8, t9, t10⟩ := BX.out _ HC.out
                have E5 := EV.out x.d.kind event W5 (BW.out _ HC.out) HX.out.1.2.1
                have hys : ({ x with d := { x.d with event := event } } : Nod).fit := ⟨⟨HX.out.1.1, HX.out.1.2.1, HX.out.1.2.2.1, HX.out.1.2.2.2.1, HX.out.1.2.2.2.2.1, HX.out.1.2.2.2.2.2.1, he, HX.out.1.2.2.2.2.2.2.2⟩, HX.out.2⟩
                have hye : evB x.d.kind event = false → ({ x with d := { x.d with event := event } } : Nod).e ≠ 0 := fun h0 he => by
                  have := (nodeE_ev he).2
                  rw [h0] at this
                  cases this
                have N5 := ND.out ({ x with d := { x.d with event := event } } : Nod) hys AT.out W5 (BW.out _ HC.out)
                obtain ⟨v5, hv5⟩ : ∃ v, ({ x with d := { x.d with event := event } } : Nod).e = v := ⟨_, rfl⟩
                rw [hv5] at N5 hye
                have N5 := Lib.hid N5
                clear hv5 hys
                cases hev : evB x.d.kind event
                case true =>
                  rw [hev] at E5
                  have E5 := Lib.hid E5
                  clear hev hye
                  go_wp2_with (go_at_call 11; refine E5.out.mono ?_; rintro e w6 ⟨rfl, rfl⟩)
                  go_ret
                  exact ⟨rfl, BW.out _ HC.out⟩
                case false =>
                  rw [hev] at E5
                  have E5 := Lib.hid E5
                  have v5n : ((v5 : Int) == 0) = false := b8n (hye hev)
                  have v5m : ((v5 : Int) != 0) = true := by rw [bne, v5n]; rfl
                  clear hev hye
                  go_wp2_with (first | (go_at_call 11; refine E5.out.mono ?_; rintro e w6 ⟨rfl, rfl⟩) | (go_at_call 12; refine N5.out.mono ?_; rintro e w6 ⟨rfl, hb6⟩; have HD := Lib.hid (below_step HC.out hb6); clear hb6))
                  go_ret
                  exact ⟨rfl, BW.out _ HD.out⟩
              case true =>
                rw [hev] at E2
                have E2 := Lib.hid E2
                clear hev hye
                go_upto_region 20 with (first | (go_at_call 11; refine E2.out.mono ?_; rintro e w4 ⟨rfl, rfl⟩))
                obtain ⟨W5, hW5⟩ : ∃ W, ((((((((((((W3.setCell ⟨wc.heap.size, 0, none⟩ (.string x.d.name)).setCell ⟨wc.heap.size, 1, none⟩ (.int .u8 x.d.kind)).setCell ⟨wc.heap.size, 2, none⟩ (.int .i64 x.d.inn)).setCell ⟨wc.heap.size, 3, none⟩ (.int .i64 x.d.on)).setCell ⟨wc.heap.size, 4, none⟩ (.int .u8 x.d.event)).setCell ⟨wc.heap.size, 5, none⟩ (.string x.d.key)).setCell ⟨wc.heap.size, 6, none⟩ (.string x.d.text)).setCell ⟨wc.heap.size, 7, none⟩ (.string x.d.set)).setCell ⟨wc.heap.size, 8, none⟩ (.bool x.d.breaks)).setCell ⟨wc.heap.size, 9, none⟩ (.slice x.o x.m x.c)).setCell ⟨wc.heap.size, 10, none⟩ (.slice x.p x.n x.q)).setCell ⟨wc.heap.size, 4, none⟩ (.int .u8 event)) = W := ⟨_, rfl⟩
                rw [hW5]
                have HC : Hid (Below W0.heap.size W0 W5) := Lib.hid (by rw [← hW5]; exact ((((((((((((HB8.out.setCell hl3.out _).setCell hl3.out _).setCell hl3.out _).setCell hl3.out _).setCell hl3.out _).setCell hl3.out _).setCell hl3.out _).setCell hl3.out _).setCell hl3.out _).setCell hl3.out _).setCell hl3.out _).setCell hl3.out _))
                have hcs : W5.cell? ⟨wc.heap.size, 0, none⟩ = some (.string x.d.name) ∧ W5.cell? ⟨wc.heap.size, 1, none⟩ = some (.int .u8 x.d.kind) ∧ W5.cell? ⟨wc.heap.size, 2, none⟩ = some (.int .i64 x.d.inn) ∧ W5.cell? ⟨wc.heap.size, 3, none⟩ = some (.int .i64 x.d.on) ∧ W5.cell? ⟨wc.heap.size, 4, none⟩ = some (.int .u8 event) ∧ W5.cell? ⟨wc.heap.size, 5, none⟩ = some (.string x.d.key) ∧ W5.cell? ⟨wc.heap.size, 6, none⟩ = some (.string x.d.text) ∧ W5.cell? ⟨wc.heap.size, 7, none⟩ = some (.string x.d.set) ∧ W5.cell? ⟨wc.heap.size, 8, none⟩ = some (.bool x.d.breaks) ∧ W5.cell? ⟨wc.heap.size, 9, none⟩ = some (.slice x.o x.m x.c) ∧ W5.cell? ⟨wc.heap.size, 10, none⟩ = some (.slice x.p x.n x.q) := by
                  rw [← hW5]
                  refine ⟨?_, ?_, ?_, ?_, World.cell?_setCell_same _ _ _ (u := .int .u8 x.d.event) ?_, ?_, ?_, ?_, ?_, ?_, ?_⟩
                  all_goals simp [go_sem, x0, x1, x2, x3, x4, x5, x6, x7, x8, x9, x10]
                clear hW5 x0 x1 x2 x3 x4 x5 x6 x7 x8 x9 x10 xf
                obtain ⟨c0, c1, c2, c3, c4, c5, c6, c7, c8, c9, c10⟩ := hcs
                obtain ⟨t0, t1, t2, t3, t4, t5, t6, t7, t8, t9, t10⟩ := BX.out _ HC.out
                have E5 := EV.out x.d.kind event W5 (BW.out _ HC.out) HX.out.1.2.1
                have hys : ({ x with d := { x.d with event := event } } : Nod).fit := ⟨⟨HX.out.1.1, HX.out.1.2.1, HX.out.1.2.2.1, HX.out.1.2.2.2.1, HX.out.1.2.2.2.2.1, HX.out.1.2.2.2.2.2.1, he, HX.out.1.2.2.2.2.2.2.2⟩, HX.out.2⟩
                have hye : evB x.d.kind event = false → ({ x with d := { x.d with event := event } } : Nod).e ≠ 0 := fun h0 he => by
                  have := (nodeE_ev he).2
                  rw [h0] at this
                  cases this
                have N5 := ND.out ({ x with d := { x.d with event := event } } : Nod) hys AT.out W5 (BW.out _ HC.out)
                obtain ⟨v5, hv5⟩ : ∃ v, ({ x with d := { x.d with event := event } } : Nod).e = v := ⟨_, rfl⟩
                rw [hv5] at N5 hye
                have N5 := Lib.hid N5
                clear hv5 hys
                cases hev : evB x.d.kind event
                case true =>
                  rw [hev] at E5
                  have E5 := Lib.hid E5
                  clear hev hye
                  go_wp2_with (go_at_call 11; refine E5.out.mono ?_; rintro e w6 ⟨rfl, rfl⟩)
                  go_ret
                  exact ⟨rfl, BW.out _ HC.out⟩
                case false =>
                  rw [hev] at E5
                  have E5 := Lib.hid E5
                  have v5n : ((v5 : Int) == 0) = false := b8n (hye hev)
                  have v5m : ((v5 : Int) != 0) = true := by rw [bne, v5n]; rfl
                  clear hev hye
                  go_wp2_with (first | (go_at_call 11; refine E5.out.mono ?_; rintro e w6 ⟨rfl, rfl⟩) | (go_at_call 12; refine N5.out.mono ?_; rintro e w6 ⟨rfl, hb6⟩; have HD := Lib.hid (below_step HC.out hb6); clear hb6))
                  go_ret
                  exact ⟨rfl, BW.out _ HD.out⟩
          all_goals
            rw [e0] at N1
            have N1 := Lib.hid N1
            clear e0
            go_wp2_with (go_at_call 12; refine N1.out.mono ?_; rintro e w3 ⟨rfl, hb3⟩)
            go_ret
            exact ⟨rfl, below_step (BW.out _ HB.out) hb3⟩
end Go.Proofs.YtdnelpmolenkoaaDoor
