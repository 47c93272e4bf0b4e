/- What model.sameNode returns. Conditions: lengths are lengths. -/
import Derived.Test.YtjakdbahopbggaaGreatDoorZK17
import Derived.Test.YtjakdbahopbggaaGreatDoorZOrd
namespace Go.Proofs.YtjakdbahopbggaaGreatDoor
open Go.RowKit Go.Ow

/-- the world while sameNode compares: the two nodes lie in boxes -/
def SN (w : World) (d e : Nd) (o1 o2 p1 p2 : Option Addr) (m1 c1 m2 c2 n1 q1 n2 q2 : Nat) (W : World) : Prop := Below w.heap.size w W ∧ w.heap.size + 1 < W.heap.size ∧ W.cell? ⟨w.heap.size, 0, none⟩ = some (.string d.name) ∧ W.cell? ⟨w.heap.size, 1, none⟩ = some (.int .u8 d.kind) ∧ W.cell? ⟨w.heap.size, 2, none⟩ = some (.int .i64 d.inn) ∧ W.cell? ⟨w.heap.size, 3, none⟩ = some (.int .i64 d.on) ∧ W.cell? ⟨w.heap.size, 4, none⟩ = some (.int .u8 d.event) ∧ W.cell? ⟨w.heap.size, 5, none⟩ = some (.string d.key) ∧ W.cell? ⟨w.heap.size, 6, none⟩ = some (.string d.text) ∧ W.cell? ⟨w.heap.size, 7, none⟩ = some (.string d.set) ∧ W.cell? ⟨w.heap.size, 8, none⟩ = some (.bool d.breaks) ∧ W.cell? ⟨w.heap.size, 9, none⟩ = some (.slice o1 m1 c1) ∧ W.cell? ⟨w.heap.size, 10, none⟩ = some (.slice p1 n1 q1) ∧ W.cell? ⟨w.heap.size + 1, 0, none⟩ = some (.string e.name) ∧ W.cell? ⟨w.heap.size + 1, 1, none⟩ = some (.int .u8 e.kind) ∧ W.cell? ⟨w.heap.size + 1, 2, none⟩ = some (.int .i64 e.inn) ∧ W.cell? ⟨w.heap.size + 1, 3, none⟩ = some (.int .i64 e.on) ∧ W.cell? ⟨w.heap.size + 1, 4, none⟩ = some (.int .u8 e.event) ∧ W.cell? ⟨w.heap.size + 1, 5, none⟩ = some (.string e.key) ∧ W.cell? ⟨w.heap.size + 1, 6, none⟩ = some (.string e.text) ∧ W.cell? ⟨w.heap.size + 1, 7, none⟩ = some (.string e.set) ∧ W.cell? ⟨w.heap.size + 1, 8, none⟩ = some (.bool e.breaks) ∧ W.cell? ⟨w.heap.size + 1, 9, none⟩ = some (.slice o2 m2 c2) ∧ W.cell? ⟨w.heap.size + 1, 10, none⟩ = some (.slice p2 n2 q2)
theorem SN.step {w : World} {d e : Nd} {o1 o2 p1 p2 : Option Addr} {m1 c1 m2 c2 n1 q1 n2 q2 : Nat} {W W' : World} (h : SN w d e o1 o2 p1 p2 m1 c1 m2 c2 n1 q1 n2 q2 W) (hb : Below W.heap.size W W') : SN w d e o1 o2 p1 p2 m1 c1 m2 c2 n1 q1 n2 q2 W' := by
  obtain ⟨g1, g2, h0, h1, h2, h3, h4, h5, h6, h7, h8, h9, h10, h11, h12, h13, h14, h15, h16, h17, h18, h19, h20, h21⟩ := h
  have hz := hb.size
  have c := (bcell hb).1
  refine ⟨below_step g1 hb, by omega, ?_, ?_, ?_, ?_, ?_, ?_, ?_, ?_, ?_, ?_, ?_, ?_, ?_, ?_, ?_, ?_, ?_, ?_, ?_, ?_, ?_, ?_⟩ <;> rw [c _ _ (by omega)] <;> assumption
theorem SN.start (w : World) (d e : Nd) (o1 o2 p1 p2 : Option Addr) (m1 c1 m2 c2 n1 q1 n2 q2 : Nat) :
    SN w d e o1 o2 p1 p2 m1 c1 m2 c2 n1 q1 n2 q2 ((w.alloc (.cells (nodeC d (.slice o1 m1 c1) (.slice p1 n1 q1)) 111)).alloc (.cells (nodeC e (.slice o2 m2 c2) (.slice p2 n2 q2)) 111)).drew := by
  refine ⟨(((Below.refl _ _).alloc (Nat.le_refl _) _).alloc (by simp) _).drew, by simp, ?_, ?_, ?_, ?_, ?_, ?_, ?_, ?_, ?_, ?_, ?_, ?_, ?_, ?_, ?_, ?_, ?_, ?_, ?_, ?_, ?_, ?_⟩ <;> simp
def sameD (d e : Nd) (f1 f2 : Nat → Va) (g1 g2 : Nat → ByteArray) (m1 m2 n1 n2 : Nat) : Bool := sameN d e && (eqV m1 m2 f1 f2 && eqS n1 n2 g1 g2)

theorem eql_one (d e : Nd) (w : World) : (binOp .eql 209 (.agg (oneC d)) (.agg (oneC e))).run Tryz.prog w = .ok (.bool (sameN d e)) w := by
  simp only [binOp]
  simp [Op.equal, Op.maxDepth, eqIn_one d e 9997]
set_option maxRecDepth 100000 in
set_option maxHeartbeats 8000000 in
theorem same_any (d e : Nd) (o1 o2 p1 p2 : Option Addr) (m1 c1 m2 c2 n1 q1 n2 q2 : Nat) (f1 f2 : Nat → Va) (g1 g2 : Nat → ByteArray) (w : World)
    (hv1 : Vr w o1 m1 f1) (hv2 : Vr w o2 m2 f2) (hs1 : Ss w p1 n1 g1) (hs2 : Ss w p2 n2 g2) (hm1 : m1 ≤ 9223372036854775807) (hm2 : m2 ≤ 9223372036854775807) (hn1 : n1 ≤ 9223372036854775807) (hn2 : n2 ≤ 9223372036854775807) :
    Calls Tryz.prog 126 #[.agg (nodeC d (.slice o1 m1 c1) (.slice p1 n1 q1)), .agg (nodeC e (.slice o2 m2 c2) (.slice p2 n2 q2))] w fun r w' => r = .returned (.bool (sameD d e f1 f2 g1 g2 m1 m2 n1 n2)) ∧ Below w.heap.size w w' := by
  have ON : Hid (∀ (x : Nd) (a b : Option Addr) (i j k l : Nat) (W : World), SN w d e o1 o2 p1 p2 m1 c1 m2 c2 n1 q1 n2 q2 W → Calls Tryz.prog 137 #[.agg (nodeC x (.slice a i j) (.slice b k l))] W fun r W' => r = .returned (.agg (oneC x)) ∧ SN w d e o1 o2 p1 p2 m1 c1 m2 c2 n1 q1 n2 q2 W') :=
    Lib.hid fun x a b i j k l W hW => (one_any x a b i j k l W).mono fun _ _ ⟨he, hb⟩ => ⟨he, hW.step hb⟩
  have EV : Hid (∀ W, SN w d e o1 o2 p1 p2 m1 c1 m2 c2 n1 q1 n2 q2 W → Calls Tryz.prog 138 #[(.slice o1 m1 c1), (.slice o2 m2 c2)] W fun r W' => r = .returned (.bool (eqV m1 m2 f1 f2)) ∧ SN w d e o1 o2 p1 p2 m1 c1 m2 c2 n1 q1 n2 q2 W') :=
    Lib.hid fun W hW => (equal_var o1 o2 m1 m2 c1 c2 f1 f2 W (hv1.below hW.1) (hv2.below hW.1) hm1 hm2).mono fun _ _ ⟨he, hb⟩ => ⟨he, hW.step hb⟩
  have ES : Hid (∀ W, SN w d e o1 o2 p1 p2 m1 c1 m2 c2 n1 q1 n2 q2 W → Calls Tryz.prog 139 #[(.slice p1 n1 q1), (.slice p2 n2 q2)] W fun r W' => r = .returned (.bool (eqS n1 n2 g1 g2)) ∧ SN w d e o1 o2 p1 p2 m1 c1 m2 c2 n1 q1 n2 q2 W') :=
    Lib.hid fun W hW => (equal_str p1 p2 n1 n2 q1 q2 g1 g2 W (hs1.below hW.1) (hs2.below hW.1) hn1 hn2).mono fun _ _ ⟨he, hb⟩ => ⟨he, hW.step hb⟩
  have HB0 := Lib.hid (SN.start w d e o1 o2 p1 p2 m1 c1 m2 c2 n1 q1 n2 q2).1
  have HS0 := Lib.hid (SN.start w d e o1 o2 p1 p2 m1 c1 m2 c2 n1 q1 n2 q2)
  have EQ := eql_one d e
  unfold sameD
  clear hv1 hv2 hs1 hs2
  obtain ⟨s, hs⟩ : ∃ s, sameN d e = s := ⟨_, rfl⟩
  obtain ⟨v, hv⟩ : ∃ s, eqV m1 m2 f1 f2 = s := ⟨_, rfl⟩
  obtain ⟨b, hb⟩ : ∃ s, eqS n1 n2 g1 g2 = s := ⟨_, rfl⟩
  rw [hs] at EQ ⊢
  rw [hv] at EV ⊢
  rw [hb] at ES ⊢
  clear hs hv hb
  cases s
  · rw [Bool.false_and]
    clear EV ES
    go_enter Tryz.func126, Tryz.ntmps126
    go_wp2
    refine wp_region_S (SN w d e o1 o2 p1 p2 m1 c1 m2 c2 n1 q1 n2 q2) (by kernel_rfl) HS0.out ?_
    refine anyS_take (i := 0) (oi := _) (d := (some 6)) (v := ?_) rfl rfl (by kernel_rfl) (by kernel_rfl) (by kernel_rfl) (fun _ _ _ h => h) (YS.pure (by kernel_rfl) (fun W hW => ?_)) ?_
    rotate_left
    · obtain ⟨-, -, z0, z1, z2, z3, z4, z5, z6, z7, z8, z9, z10, z11, z12, z13, z14, z15, z16, z17, z18, z19, z20, z21⟩ := hW
      go_simp
      try with_reducible rfl
    simp only [Act.put, List.setIfInBounds_toArray, List.set_cons_zero, List.set_cons_succ]
    refine anyS_take (i := 1) (oi := _) (d := (some 7)) (v := ?_) rfl rfl (by kernel_rfl) (by kernel_rfl) (by kernel_rfl) (fun _ _ _ h => h) (YS.pure (by kernel_rfl) (fun W hW => ?_)) ?_
    rotate_left
    · obtain ⟨-, -, z0, z1, z2, z3, z4, z5, z6, z7, z8, z9, z10, z11, z12, z13, z14, z15, z16, z17, z18, z19, z20, z21⟩ := hW
      go_simp
      try with_reducible rfl
    simp only [Act.put, List.setIfInBounds_toArray, List.set_cons_zero, List.set_cons_succ]
    refine anyS_take (i := 2) (oi := _) (d := (some 8)) (v := ?_) rfl rfl (by kernel_rfl) (by kernel_rfl) (by kernel_rfl) (fun _ _ _ h => h) (YS.call (f := ?_) (args := ?_) (by kernel_rfl) (fun W hW => ?_) (fun W hW => ?_)) ?_
    rotate_left 3
    · obtain ⟨-, -, z0, z1, z2, z3, z4, z5, z6, z7, z8, z9, z10, z11, z12, z13, z14, z15, z16, z17, z18, z19, z20, z21⟩ := hW
      go_simp
      try (refine And.intro ?_ ?_ <;> with_reducible rfl)
    · exact ON.out _ _ _ _ _ _ _ _ hW
    simp only [Act.put, List.setIfInBounds_toArray, List.set_cons_zero, List.set_cons_succ]
    refine anyS_take (i := 3) (oi := _) (d := (some 9)) (v := ?_) rfl rfl (by kernel_rfl) (by kernel_rfl) (by kernel_rfl) (fun _ _ _ h => h) (YS.pure (by kernel_rfl) (fun W hW => ?_)) ?_
    rotate_left
    · obtain ⟨-, -, z0, z1, z2, z3, z4, z5, z6, z7, z8, z9, z10, z11, z12, z13, z14, z15, z16, z17, z18, z19, z20, z21⟩ := hW
      go_simp
      try with_reducible rfl
    simp only [Act.put, List.setIfInBounds_toArray, List.set_cons_zero, List.set_cons_succ]
    refine anyS_take (i := 4) (oi := _) (d := (some 10)) (v := ?_) rfl rfl (by kernel_rfl) (by kernel_rfl) (by kernel_rfl) (fun _ _ _ h => h) (YS.pure (by kernel_rfl) (fun W hW => ?_)) ?_
    rotate_left
    · obtain ⟨-, -, z0, z1, z2, z3, z4, z5, z6, z7, z8, z9, z10, z11, z12, z13, z14, z15, z16, z17, z18, z19, z20, z21⟩ := hW
      go_simp
      try with_reducible rfl
    simp only [Act.put, List.setIfInBounds_toArray, List.set_cons_zero, List.set_cons_succ]
    refine anyS_take (i := 5) (oi := _) (d := (some 11)) (v := ?_) rfl rfl (by kernel_rfl) (by kernel_rfl) (by kernel_rfl) (fun _ _ _ h => h) (YS.call (f := ?_) (args := ?_) (by kernel_rfl) (fun W hW => ?_) (fun W hW => ?_)) ?_
    rotate_left 3
    · obtain ⟨-, -, z0, z1, z2, z3, z4, z5, z6, z7, z8, z9, z10, z11, z12, z13, z14, z15, z16, z17, z18, z19, z20, z21⟩ := hW
      go_simp
      try (refine And.intro ?_ ?_ <;> with_reducible rfl)
    · exact ON.out _ _ _ _ _ _ _ _ hW
    simp only [Act.put, List.setIfInBounds_toArray, List.set_cons_zero, List.set_cons_succ]
    refine anyS_take (i := 6) (oi := _) (d := (some 12)) (v := ?_) rfl rfl (by kernel_rfl) (by kernel_rfl) (by kernel_rfl) (fun _ _ _ h => h) (YS.pure (by kernel_rfl) (fun W hW => ?_)) ?_
    rotate_left
    · obtain ⟨-, -, z0, z1, z2, z3, z4, z5, z6, z7, z8, z9, z10, z11, z12, z13, z14, z15, z16, z17, z18, z19, z20, z21⟩ := hW
      go_simp
      try with_reducible rfl
    simp only [Act.put, List.setIfInBounds_toArray, List.set_cons_zero, List.set_cons_succ]
    refine anyS_take (i := 7) (oi := _) (d := (some 13)) (v := ?_) rfl rfl (by kernel_rfl) (by kernel_rfl) (by kernel_rfl) (fun _ _ _ h => h) (YS.pure (by kernel_rfl) (fun W hW => ?_)) ?_
    rotate_left
    · obtain ⟨-, -, z0, z1, z2, z3, z4, z5, z6, z7, z8, z9, z10, z11, z12, z13, z14, z15, z16, z17, z18, z19, z20, z21⟩ := hW
      go_simp
      try with_reducible rfl
    simp only [Act.put, List.setIfInBounds_toArray, List.set_cons_zero, List.set_cons_succ]
    refine anyS_take (i := 8) (oi := _) (d := (some 14)) (v := undef) rfl rfl (by kernel_rfl) (by kernel_rfl) (by kernel_rfl) (fun _ _ _ h => h) (YS.skip (by kernel_rfl)) ?_
    simp only [Act.put, List.setIfInBounds_toArray, List.set_cons_zero, List.set_cons_succ]
    refine anyS_take (i := 9) (oi := _) (d := (some 15)) (v := undef) rfl rfl (by kernel_rfl) (by kernel_rfl) (by kernel_rfl) (fun _ _ _ h => h) (YS.skip (by kernel_rfl)) ?_
    simp only [Act.put, List.setIfInBounds_toArray, List.set_cons_zero, List.set_cons_succ]
    refine anyS_take (i := 10) (oi := _) (d := (some 16)) (v := undef) rfl rfl (by kernel_rfl) (by kernel_rfl) (by kernel_rfl) (fun _ _ _ h => h) (YS.skip (by kernel_rfl)) ?_
    simp only [Act.put, List.setIfInBounds_toArray, List.set_cons_zero, List.set_cons_succ]
    refine anyS_take (i := 11) (oi := _) (d := (some 17)) (v := undef) rfl rfl (by kernel_rfl) (by kernel_rfl) (by kernel_rfl) (fun _ _ _ h => h) (YS.skip (by kernel_rfl)) ?_
    simp only [Act.put, List.setIfInBounds_toArray, List.set_cons_zero, List.set_cons_succ]
    refine anyS_take (i := 12) (oi := _) (d := (some 18)) (v := undef) rfl rfl (by kernel_rfl) (by kernel_rfl) (by kernel_rfl) (fun _ _ _ h => h) (YS.skip (by kernel_rfl)) ?_
    simp only [Act.put, List.setIfInBounds_toArray, List.set_cons_zero, List.set_cons_succ]
    refine anyS_take (i := 13) (oi := _) (d := (some 19)) (v := ?_) rfl rfl (by kernel_rfl) (by kernel_rfl) (by kernel_rfl) (fun _ _ _ h => h) (YS.pure (by kernel_rfl) (fun W hW => ?_)) ?_
    rotate_left
    · obtain ⟨-, -, z0, z1, z2, z3, z4, z5, z6, z7, z8, z9, z10, z11, z12, z13, z14, z15, z16, z17, z18, z19, z20, z21⟩ := hW
      go_simp
      try with_reducible rfl
    simp only [Act.put, List.setIfInBounds_toArray, List.set_cons_zero, List.set_cons_succ]
    refine anyS_take (i := 14) (oi := _) (d := (some 20)) (v := ?_) rfl rfl (by kernel_rfl) (by kernel_rfl) (by kernel_rfl) (fun _ _ _ h => h) (YS.pure (by kernel_rfl) (fun W hW => ?_)) ?_
    rotate_left
    · obtain ⟨-, -, z0, z1, z2, z3, z4, z5, z6, z7, z8, z9, z10, z11, z12, z13, z14, z15, z16, z17, z18, z19, z20, z21⟩ := hW
      go_simp
      try with_reducible rfl
    simp only [Act.put, List.setIfInBounds_toArray, List.set_cons_zero, List.set_cons_succ]
    refine anyS_take (i := 15) (oi := _) (d := (some 21)) (v := undef) rfl rfl (by kernel_rfl) (by kernel_rfl) (by kernel_rfl) (fun _ _ _ h => h) (YS.skip (by kernel_rfl)) ?_
    simp only [Act.put, List.setIfInBounds_toArray, List.set_cons_zero, List.set_cons_succ]
    refine anyS_take (i := 16) (oi := _) (d := (some 22)) (v := undef) rfl rfl (by kernel_rfl) (by kernel_rfl) (by kernel_rfl) (fun _ _ _ h => h) (YS.skip (by kernel_rfl)) ?_
    simp only [Act.put, List.setIfInBounds_toArray, List.set_cons_zero, List.set_cons_succ]
    refine anyS_take (i := 17) (oi := _) (d := (some 23)) (v := undef) rfl rfl (by kernel_rfl) (by kernel_rfl) (by kernel_rfl) (fun _ _ _ h => h) (YS.skip (by kernel_rfl)) ?_
    simp only [Act.put, List.setIfInBounds_toArray, List.set_cons_zero, List.set_cons_succ]
    refine anyS_take (i := 18) (oi := _) (d := (some 24)) (v := undef) rfl rfl (by kernel_rfl) (by kernel_rfl) (by kernel_rfl) (fun _ _ _ h => h) (YS.skip (by kernel_rfl)) ?_
    simp only [Act.put, List.setIfInBounds_toArray, List.set_cons_zero, List.set_cons_succ]
    refine anyS_take (i := 19) (oi := _) (d := (some 25)) (v := undef) rfl rfl (by kernel_rfl) (by kernel_rfl) (by kernel_rfl) (fun _ _ _ h => h) (YS.skip (by kernel_rfl)) ?_
    simp only [Act.put, List.setIfInBounds_toArray, List.set_cons_zero, List.set_cons_succ]
    refine anyS_take (i := 20) (oi := _) (d := (some 26)) (v := ?_) rfl rfl (by kernel_rfl) (by kernel_rfl) (by kernel_rfl) (fun _ _ _ h => h) (YS.pure (by kernel_rfl) (fun W hW => ?_)) ?_
    rotate_left
    · obtain ⟨-, -, z0, z1, z2, z3, z4, z5, z6, z7, z8, z9, z10, z11, z12, z13, z14, z15, z16, z17, z18, z19, z20, z21⟩ := hW
      go_simp
      try with_reducible rfl
    simp only [Act.put, List.setIfInBounds_toArray, List.set_cons_zero, List.set_cons_succ]
    refine anyS_take (i := 21) (oi := _) (d := (some 4)) (v := ?_) rfl rfl (by kernel_rfl) (by kernel_rfl) (by kernel_rfl) (fun _ _ _ h => h) (YS.pure (by kernel_rfl) (fun W hW => ?_)) ?_
    rotate_left
    · obtain ⟨-, -, z0, z1, z2, z3, z4, z5, z6, z7, z8, z9, z10, z11, z12, z13, z14, z15, z16, z17, z18, z19, z20, z21⟩ := hW
      go_simp
      try with_reducible rfl
    simp only [Act.put, List.setIfInBounds_toArray, List.set_cons_zero, List.set_cons_succ]
    refine anyS_done (by kernel_rfl) (fun W hW => ?_) _
    go_wp2
    go_ret
    exact ⟨rfl, hW.1⟩
  · rw [Bool.true_and]
    cases v
    · rw [Bool.false_and]
      clear ES
      go_enter Tryz.func126, Tryz.ntmps126
      go_wp2
      refine wp_region_S (SN w d e o1 o2 p1 p2 m1 c1 m2 c2 n1 q1 n2 q2) (by kernel_rfl) HS0.out ?_
      refine anyS_take (i := 0) (oi := _) (d := (some 6)) (v := ?_) rfl rfl (by kernel_rfl) (by kernel_rfl) (by kernel_rfl) (fun _ _ _ h => h) (YS.pure (by kernel_rfl) (fun W hW => ?_)) ?_
      rotate_left
      · obtain ⟨-, -, z0, z1, z2, z3, z4, z5, z6, z7, z8, z9, z10, z11, z12, z13, z14, z15, z16, z17, z18, z19, z20, z21⟩ := hW
        go_simp
        try with_reducible rfl
      simp only [Act.put, List.setIfInBounds_toArray, List.set_cons_zero, List.set_cons_succ]
      refine anyS_take (i := 1) (oi := _) (d := (some 7)) (v := ?_) rfl rfl (by kernel_rfl) (by kernel_rfl) (by kernel_rfl) (fun _ _ _ h => h) (YS.pure (by kernel_rfl) (fun W hW => ?_)) ?_
      rotate_left
      · obtain ⟨-, -, z0, z1, z2, z3, z4, z5, z6, z7, z8, z9, z10, z11, z12, z13, z14, z15, z16, z17, z18, z19, z20, z21⟩ := hW
        go_simp
        try with_reducible rfl
      simp only [Act.put, List.setIfInBounds_toArray, List.set_cons_zero, List.set_cons_succ]
      refine anyS_take (i := 2) (oi := _) (d := (some 8)) (v := ?_) rfl rfl (by kernel_rfl) (by kernel_rfl) (by kernel_rfl) (fun _ _ _ h => h) (YS.call (f := ?_) (args := ?_) (by kernel_rfl) (fun W hW => ?_) (fun W hW => ?_)) ?_
      rotate_left 3
      · obtain ⟨-, -, z0, z1, z2, z3, z4, z5, z6, z7, z8, z9, z10, z11, z12, z13, z14, z15, z16, z17, z18, z19, z20, z21⟩ := hW
        go_simp
        try (refine And.intro ?_ ?_ <;> with_reducible rfl)
      · exact ON.out _ _ _ _ _ _ _ _ hW
      simp only [Act.put, List.setIfInBounds_toArray, List.set_cons_zero, List.set_cons_succ]
      refine anyS_take (i := 3) (oi := _) (d := (some 9)) (v := ?_) rfl rfl (by kernel_rfl) (by kernel_rfl) (by kernel_rfl) (fun _ _ _ h => h) (YS.pure (by kernel_rfl) (fun W hW => ?_)) ?_
      rotate_left
      · obtain ⟨-, -, z0, z1, z2, z3, z4, z5, z6, z7, z8, z9, z10, z11, z12, z13, z14, z15, z16, z17, z18, z19, z20, z21⟩ := hW
        go_simp
        try with_reducible rfl
      simp only [Act.put, List.setIfInBounds_toArray, List.set_cons_zero, List.set_cons_succ]
      refine anyS_take (i := 4) (oi := _) (d := (some 10)) (v := ?_) rfl rfl (by kernel_rfl) (by kernel_rfl) (by kernel_rfl) (fun _ _ _ h => h) (YS.pure (by kernel_rfl) (fun W hW => ?_)) ?_
      rotate_left
      · obtain ⟨-, -, z0, z1, z2, z3, z4, z5, z6, z7, z8, z9, z10, z11, z12, z13, z14, z15, z16, z17, z18, z19, z20, z21⟩ := hW
        go_simp
        try with_reducible rfl
      simp only [Act.put, List.setIfInBounds_toArray, List.set_cons_zero, List.set_cons_succ]
      refine anyS_take (i := 5) (oi := _) (d := (some 11)) (v := ?_) rfl rfl (by kernel_rfl) (by kernel_rfl) (by kernel_rfl) (fun _ _ _ h => h) (YS.call (f := ?_) (args := ?_) (by kernel_rfl) (fun W hW => ?_) (fun W hW => ?_)) ?_
      rotate_left 3
      · obtain ⟨-, -, z0, z1, z2, z3, z4, z5, z6, z7, z8, z9, z10, z11, z12, z13, z14, z15, z16, z17, z18, z19, z20, z21⟩ := hW
        go_simp
        try (refine And.intro ?_ ?_ <;> with_reducible rfl)
      · exact ON.out _ _ _ _ _ _ _ _ hW
      simp only [Act.put, List.setIfInBounds_toArray, List.set_cons_zero, List.set_cons_succ]
      refine anyS_take (i := 6) (oi := _) (d := (some 12)) (v := ?_) rfl rfl (by kernel_rfl) (by kernel_rfl) (by kernel_rfl) (fun _ _ _ h => h) (YS.pure (by kernel_rfl) (fun W hW => ?_)) ?_
      rotate_left
      · obtain ⟨-, -, z0, z1, z2, z3, z4, z5, z6, z7, z8, z9, z10, z11, z12, z13, z14, z15, z16, z17, z18, z19, z20, z21⟩ := hW
        go_simp
        try with_reducible rfl
      simp only [Act.put, List.setIfInBounds_toArray, List.set_cons_zero, List.set_cons_succ]
      refine anyS_take (i := 7) (oi := _) (d := (some 13)) (v := ?_) rfl rfl (by kernel_rfl) (by kernel_rfl) (by kernel_rfl) (fun _ _ _ h => h) (YS.pure (by kernel_rfl) (fun W hW => ?_)) ?_
      rotate_left
      · obtain ⟨-, -, z0, z1, z2, z3, z4, z5, z6, z7, z8, z9, z10, z11, z12, z13, z14, z15, z16, z17, z18, z19, z20, z21⟩ := hW
        go_simp
        try with_reducible rfl
      simp only [Act.put, List.setIfInBounds_toArray, List.set_cons_zero, List.set_cons_succ]
      refine anyS_take (i := 8) (oi := _) (d := (some 14)) (v := ?_) rfl rfl (by kernel_rfl) (by kernel_rfl) (by kernel_rfl) (fun _ _ _ h => h) (YS.pure (by kernel_rfl) (fun W hW => ?_)) ?_
      rotate_left
      · obtain ⟨-, -, z0, z1, z2, z3, z4, z5, z6, z7, z8, z9, z10, z11, z12, z13, z14, z15, z16, z17, z18, z19, z20, z21⟩ := hW
        go_simp
        try with_reducible rfl
      simp only [Act.put, List.setIfInBounds_toArray, List.set_cons_zero, List.set_cons_succ]
      refine anyS_take (i := 9) (oi := _) (d := (some 15)) (v := ?_) rfl rfl (by kernel_rfl) (by kernel_rfl) (by kernel_rfl) (fun _ _ _ h => h) (YS.pure (by kernel_rfl) (fun W hW => ?_)) ?_
      rotate_left
      · obtain ⟨-, -, z0, z1, z2, z3, z4, z5, z6, z7, z8, z9, z10, z11, z12, z13, z14, z15, z16, z17, z18, z19, z20, z21⟩ := hW
        go_simp
        try with_reducible rfl
      simp only [Act.put, List.setIfInBounds_toArray, List.set_cons_zero, List.set_cons_succ]
      refine anyS_take (i := 10) (oi := _) (d := (some 16)) (v := ?_) rfl rfl (by kernel_rfl) (by kernel_rfl) (by kernel_rfl) (fun _ _ _ h => h) (YS.pure (by kernel_rfl) (fun W hW => ?_)) ?_
      rotate_left
      · obtain ⟨-, -, z0, z1, z2, z3, z4, z5, z6, z7, z8, z9, z10, z11, z12, z13, z14, z15, z16, z17, z18, z19, z20, z21⟩ := hW
        go_simp
        try with_reducible rfl
      simp only [Act.put, List.setIfInBounds_toArray, List.set_cons_zero, List.set_cons_succ]
      refine anyS_take (i := 11) (oi := _) (d := (some 17)) (v := ?_) rfl rfl (by kernel_rfl) (by kernel_rfl) (by kernel_rfl) (fun _ _ _ h => h) (YS.pure (by kernel_rfl) (fun W hW => ?_)) ?_
      rotate_left
      · obtain ⟨-, -, z0, z1, z2, z3, z4, z5, z6, z7, z8, z9, z10, z11, z12, z13, z14, z15, z16, z17, z18, z19, z20, z21⟩ := hW
        go_simp
        try with_reducible rfl
      simp only [Act.put, List.setIfInBounds_toArray, List.set_cons_zero, List.set_cons_succ]
      refine anyS_take (i := 12) (oi := _) (d := (some 18)) (v := ?_) rfl rfl (by kernel_rfl) (by kernel_rfl) (by kernel_rfl) (fun _ _ _ h => h) (YS.call (f := ?_) (args := ?_) (by kernel_rfl) (fun W hW => ?_) (fun W hW => ?_)) ?_
      rotate_left 3
      · obtain ⟨-, -, z0, z1, z2, z3, z4, z5, z6, z7, z8, z9, z10, z11, z12, z13, z14, z15, z16, z17, z18, z19, z20, z21⟩ := hW
        go_simp
        try (refine And.intro ?_ ?_ <;> with_reducible rfl)
      · exact EV.out _ hW
      simp only [Act.put, List.setIfInBounds_toArray, List.set_cons_zero, List.set_cons_succ]
      refine anyS_take (i := 13) (oi := _) (d := (some 19)) (v := ?_) rfl rfl (by kernel_rfl) (by kernel_rfl) (by kernel_rfl) (fun _ _ _ h => h) (YS.pure (by kernel_rfl) (fun W hW => ?_)) ?_
      rotate_left
      · obtain ⟨-, -, z0, z1, z2, z3, z4, z5, z6, z7, z8, z9, z10, z11, z12, z13, z14, z15, z16, z17, z18, z19, z20, z21⟩ := hW
        go_simp
        try with_reducible rfl
      simp only [Act.put, List.setIfInBounds_toArray, List.set_cons_zero, List.set_cons_succ]
      refine anyS_take (i := 14) (oi := _) (d := (some 20)) (v := ?_) rfl rfl (by kernel_rfl) (by kernel_rfl) (by kernel_rfl) (fun _ _ _ h => h) (YS.pure (by kernel_rfl) (fun W hW => ?_)) ?_
      rotate_left
      · obtain ⟨-, -, z0, z1, z2, z3, z4, z5, z6, z7, z8, z9, z10, z11, z12, z13, z14, z15, z16, z17, z18, z19, z20, z21⟩ := hW
        go_simp
        try with_reducible rfl
      simp only [Act.put, List.setIfInBounds_toArray, List.set_cons_zero, List.set_cons_succ]
      refine anyS_take (i := 15) (oi := _) (d := (some 21)) (v := undef) rfl rfl (by kernel_rfl) (by kernel_rfl) (by kernel_rfl) (fun _ _ _ h => h) (YS.skip (by kernel_rfl)) ?_
      simp only [Act.put, List.setIfInBounds_toArray, List.set_cons_zero, List.set_cons_succ]
      refine anyS_take (i := 16) (oi := _) (d := (some 22)) (v := undef) rfl rfl (by kernel_rfl) (by kernel_rfl) (by kernel_rfl) (fun _ _ _ h => h) (YS.skip (by kernel_rfl)) ?_
      simp only [Act.put, List.setIfInBounds_toArray, List.set_cons_zero, List.set_cons_succ]
      refine anyS_take (i := 17) (oi := _) (d := (some 23)) (v := undef) rfl rfl (by kernel_rfl) (by kernel_rfl) (by kernel_rfl) (fun _ _ _ h => h) (YS.skip (by kernel_rfl)) ?_
      simp only [Act.put, List.setIfInBounds_toArray, List.set_cons_zero, List.set_cons_succ]
      refine anyS_take (i := 18) (oi := _) (d := (some 24)) (v := undef) rfl rfl (by kernel_rfl) (by kernel_rfl) (by kernel_rfl) (fun _ _ _ h => h) (YS.skip (by kernel_rfl)) ?_
      simp only [Act.put, List.setIfInBounds_toArray, List.set_cons_zero, List.set_cons_succ]
      refine anyS_take (i := 19) (oi := _) (d := (some 25)) (v := undef) rfl rfl (by kernel_rfl) (by kernel_rfl) (by kernel_rfl) (fun _ _ _ h => h) (YS.skip (by kernel_rfl)) ?_
      simp only [Act.put, List.setIfInBounds_toArray, List.set_cons_zero, List.set_cons_succ]
      refine anyS_take (i := 20) (oi := _) (d := (some 26)) (v := ?_) rfl rfl (by kernel_rfl) (by kernel_rfl) (by kernel_rfl) (fun _ _ _ h => h) (YS.pure (by kernel_rfl) (fun W hW => ?_)) ?_
      rotate_left
      · obtain ⟨-, -, z0, z1, z2, z3, z4, z5, z6, z7, z8, z9, z10, z11, z12, z13, z14, z15, z16, z17, z18, z19, z20, z21⟩ := hW
        go_simp
        try with_reducible rfl
      simp only [Act.put, List.setIfInBounds_toArray, List.set_cons_zero, List.set_cons_succ]
      refine anyS_take (i := 21) (oi := _) (d := (some 4)) (v := ?_) rfl rfl (by kernel_rfl) (by kernel_rfl) (by kernel_rfl) (fun _ _ _ h => h) (YS.pure (by kernel_rfl) (fun W hW => ?_)) ?_
      rotate_left
      · obtain ⟨-, -, z0, z1, z2, z3, z4, z5, z6, z7, z8, z9, z10, z11, z12, z13, z14, z15, z16, z17, z18, z19, z20, z21⟩ := hW
        go_simp
        try with_reducible rfl
      simp only [Act.put, List.setIfInBounds_toArray, List.set_cons_zero, List.set_cons_succ]
      refine anyS_done (by kernel_rfl) (fun W hW => ?_) _
      go_wp2
      go_ret
      exact ⟨rfl, hW.1⟩
    · rw [Bool.true_and]
      go_enter Tryz.func126, Tryz.ntmps126
      go_wp2
      refine wp_region_S (SN w d e o1 o2 p1 p2 m1 c1 m2 c2 n1 q1 n2 q2) (by kernel_rfl) HS0.out ?_
      refine anyS_take (i := 0) (oi := _) (d := (some 6)) (v := ?_) rfl rfl (by kernel_rfl) (by kernel_rfl) (by kernel_rfl) (fun _ _ _ h => h) (YS.pure (by kernel_rfl) (fun W hW => ?_)) ?_
      rotate_left
      · obtain ⟨-, -, z0, z1, z2, z3, z4, z5, z6, z7, z8, z9, z10, z11, z12, z13, z14, z15, z16, z17, z18, z19, z20, z21⟩ := hW
        go_simp
        try with_reducible rfl
      simp only [Act.put, List.setIfInBounds_toArray, List.set_cons_zero, List.set_cons_succ]
      refine anyS_take (i := 1) (oi := _) (d := (some 7)) (v := ?_) rfl rfl (by kernel_rfl) (by kernel_rfl) (by kernel_rfl) (fun _ _ _ h => h) (YS.pure (by kernel_rfl) (fun W hW => ?_)) ?_
      rotate_left
      · obtain ⟨-, -, z0, z1, z2, z3, z4, z5, z6, z7, z8, z9, z10, z11, z12, z13, z14, z15, z16, z17, z18, z19, z20, z21⟩ := hW
        go_simp
        try with_reducible rfl
      simp only [Act.put, List.setIfInBounds_toArray, List.set_cons_zero, List.set_cons_succ]
      refine anyS_take (i := 2) (oi := _) (d := (some 8)) (v := ?_) rfl rfl (by kernel_rfl) (by kernel_rfl) (by kernel_rfl) (fun _ _ _ h => h) (YS.call (f := ?_) (args := ?_) (by kernel_rfl) (fun W hW => ?_) (fun W hW => ?_)) ?_
      rotate_left 3
      · obtain ⟨-, -, z0, z1, z2, z3, z4, z5, z6, z7, z8, z9, z10, z11, z12, z13, z14, z15, z16, z17, z18, z19, z20, z21⟩ := hW
        go_simp
        try (refine And.intro ?_ ?_ <;> with_reducible rfl)
      · exact ON.out _ _ _ _ _ _ _ _ hW
      simp only [Act.put, List.setIfInBounds_toArray, List.set_cons_zero, List.set_cons_succ]
      refine anyS_take (i := 3) (oi := _) (d := (some 9)) (v := ?_) rfl rfl (by kernel_rfl) (by kernel_rfl) (by kernel_rfl) (fun _ _ _ h => h) (YS.pure (by kernel_rfl) (fun W hW => ?_)) ?_
      rotate_left
      · obtain ⟨-, -, z0, z1, z2, z3, z4, z5, z6, z7, z8, z9, z10, z11, z12, z13, z14, z15, z16, z17, z18, z19, z20, z21⟩ := hW
        go_simp
        try with_reducible rfl
      simp only [Act.put, List.setIfInBounds_toArray, List.set_cons_zero, List.set_cons_succ]
      refine anyS_take (i := 4) (oi := _) (d := (some 10)) (v := ?_) rfl rfl (by kernel_rfl) (by kernel_rfl) (by kernel_rfl) (fun _ _ _ h => h) (YS.pure (by kernel_rfl) (fun W hW => ?_)) ?_
      rotate_left
      · obtain ⟨-, -, z0, z1, z2, z3, z4, z5, z6, z7, z8, z9, z10, z11, z12, z13, z14, z15, z16, z17, z18, z19, z20, z21⟩ := hW
        go_simp
        try with_reducible rfl
      simp only [Act.put, List.setIfInBounds_toArray, List.set_cons_zero, List.set_cons_succ]
      refine anyS_take (i := 5) (oi := _) (d := (some 11)) (v := ?_) rfl rfl (by kernel_rfl) (by kernel_rfl) (by kernel_rfl) (fun _ _ _ h => h) (YS.call (f := ?_) (args := ?_) (by kernel_rfl) (fun W hW => ?_) (fun W hW => ?_)) ?_
      rotate_left 3
      · obtain ⟨-, -, z0, z1, z2, z3, z4, z5, z6, z7, z8, z9, z10, z11, z12, z13, z14, z15, z16, z17, z18, z19, z20, z21⟩ := hW
        go_simp
        try (refine And.intro ?_ ?_ <;> with_reducible rfl)
      · exact ON.out _ _ _ _ _ _ _ _ hW
      simp only [Act.put, List.setIfInBounds_toArray, List.set_cons_zero, List.set_cons_succ]
      refine anyS_take (i := 6) (oi := _) (d := (some 12)) (v := ?_) rfl rfl (by kernel_rfl) (by kernel_rfl) (by kernel_rfl) (fun _ _ _ h => h) (YS.pure (by kernel_rfl) (fun W hW => ?_)) ?_
      rotate_left
      · obtain ⟨-, -, z0, z1, z2, z3, z4, z5, z6, z7, z8, z9, z10, z11, z12, z13, z14, z15, z16, z17, z18, z19, z20, z21⟩ := hW
        go_simp
        try with_reducible rfl
      simp only [Act.put, List.setIfInBounds_toArray, List.set_cons_zero, List.set_cons_succ]
      refine anyS_take (i := 7) (oi := _) (d := (some 13)) (v := ?_) rfl rfl (by kernel_rfl) (by kernel_rfl) (by kernel_rfl) (fun _ _ _ h => h) (YS.pure (by kernel_rfl) (fun W hW => ?_)) ?_
      rotate_left
      · obtain ⟨-, -, z0, z1, z2, z3, z4, z5, z6, z7, z8, z9, z10, z11, z12, z13, z14, z15, z16, z17, z18, z19, z20, z21⟩ := hW
        go_simp
        try with_reducible rfl
      simp only [Act.put, List.setIfInBounds_toArray, List.set_cons_zero, List.set_cons_succ]
      refine anyS_take (i := 8) (oi := _) (d := (some 14)) (v := ?_) rfl rfl (by kernel_rfl) (by kernel_rfl) (by kernel_rfl) (fun _ _ _ h => h) (YS.pure (by kernel_rfl) (fun W hW => ?_)) ?_
      rotate_left
      · obtain ⟨-, -, z0, z1, z2, z3, z4, z5, z6, z7, z8, z9, z10, z11, z12, z13, z14, z15, z16, z17, z18, z19, z20, z21⟩ := hW
        go_simp
        try with_reducible rfl
      simp only [Act.put, List.setIfInBounds_toArray, List.set_cons_zero, List.set_cons_succ]
      refine anyS_take (i := 9) (oi := _) (d := (some 15)) (v := ?_) rfl rfl (by kernel_rfl) (by kernel_rfl) (by kernel_rfl) (fun _ _ _ h => h) (YS.pure (by kernel_rfl) (fun W hW => ?_)) ?_
      rotate_left
      · obtain ⟨-, -, z0, z1, z2, z3, z4, z5, z6, z7, z8, z9, z10, z11, z12, z13, z14, z15, z16, z17, z18, z19, z20, z21⟩ := hW
        go_simp
        try with_reducible rfl
      simp only [Act.put, List.setIfInBounds_toArray, List.set_cons_zero, List.set_cons_succ]
      refine anyS_take (i := 10) (oi := _) (d := (some 16)) (v := ?_) rfl rfl (by kernel_rfl) (by kernel_rfl) (by kernel_rfl) (fun _ _ _ h => h) (YS.pure (by kernel_rfl) (fun W hW => ?_)) ?_
      rotate_left
      · obtain ⟨-, -, z0, z1, z2, z3, z4, z5, z6, z7, z8, z9, z10, z11, z12, z13, z14, z15, z16, z17, z18, z19, z20, z21⟩ := hW
        go_simp
        try with_reducible rfl
      simp only [Act.put, List.setIfInBounds_toArray, List.set_cons_zero, List.set_cons_succ]
      refine anyS_take (i := 11) (oi := _) (d := (some 17)) (v := ?_) rfl rfl (by kernel_rfl) (by kernel_rfl) (by kernel_rfl) (fun _ _ _ h => h) (YS.pure (by kernel_rfl) (fun W hW => ?_)) ?_
      rotate_left
      · obtain ⟨-, -, z0, z1, z2, z3, z4, z5, z6, z7, z8, z9, z10, z11, z12, z13, z14, z15, z16, z17, z18, z19, z20, z21⟩ := hW
        go_simp
        try with_reducible rfl
      simp only [Act.put, List.setIfInBounds_toArray, List.set_cons_zero, List.set_cons_succ]
      refine anyS_take (i := 12) (oi := _) (d := (some 18)) (v := ?_) rfl rfl (by kernel_rfl) (by kernel_rfl) (by kernel_rfl) (fun _ _ _ h => h) (YS.call (f := ?_) (args := ?_) (by kernel_rfl) (fun W hW => ?_) (fun W hW => ?_)) ?_
      rotate_left 3
      · obtain ⟨-, -, z0, z1, z2, z3, z4, z5, z6, z7, z8, z9, z10, z11, z12, z13, z14, z15, z16, z17, z18, z19, z20, z21⟩ := hW
        go_simp
        try (refine And.intro ?_ ?_ <;> with_reducible rfl)
      · exact EV.out _ hW
      simp only [Act.put, List.setIfInBounds_toArray, List.set_cons_zero, List.set_cons_succ]
      refine anyS_take (i := 13) (oi := _) (d := (some 19)) (v := ?_) rfl rfl (by kernel_rfl) (by kernel_rfl) (by kernel_rfl) (fun _ _ _ h => h) (YS.pure (by kernel_rfl) (fun W hW => ?_)) ?_
      rotate_left
      · obtain ⟨-, -, z0, z1, z2, z3, z4, z5, z6, z7, z8, z9, z10, z11, z12, z13, z14, z15, z16, z17, z18, z19, z20, z21⟩ := hW
        go_simp
        try with_reducible rfl
      simp only [Act.put, List.setIfInBounds_toArray, List.set_cons_zero, List.set_cons_succ]
      refine anyS_take (i := 14) (oi := _) (d := (some 20)) (v := ?_) rfl rfl (by kernel_rfl) (by kernel_rfl) (by kernel_rfl) (fun _ _ _ h => h) (YS.pure (by kernel_rfl) (fun W hW => ?_)) ?_
      rotate_left
      · obtain ⟨-, -, z0, z1, z2, z3, z4, z5, z6, z7, z8, z9, z10, z11, z12, z13, z14, z15, z16, z17, z18, z19, z20, z21⟩ := hW
        go_simp
        try with_reducible rfl
      simp only [Act.put, List.setIfInBounds_toArray, List.set_cons_zero, List.set_cons_succ]
      refine anyS_take (i := 15) (oi := _) (d := (some 21)) (v := ?_) rfl rfl (by kernel_rfl) (by kernel_rfl) (by kernel_rfl) (fun _ _ _ h => h) (YS.pure (by kernel_rfl) (fun W hW => ?_)) ?_
      rotate_left
      · obtain ⟨-, -, z0, z1, z2, z3, z4, z5, z6, z7, z8, z9, z10, z11, z12, z13, z14, z15, z16, z17, z18, z19, z20, z21⟩ := hW
        go_simp
        try with_reducible rfl
      simp only [Act.put, List.setIfInBounds_toArray, List.set_cons_zero, List.set_cons_succ]
      refine anyS_take (i := 16) (oi := _) (d := (some 22)) (v := ?_) rfl rfl (by kernel_rfl) (by kernel_rfl) (by kernel_rfl) (fun _ _ _ h => h) (YS.pure (by kernel_rfl) (fun W hW => ?_)) ?_
      rotate_left
      · obtain ⟨-, -, z0, z1, z2, z3, z4, z5, z6, z7, z8, z9, z10, z11, z12, z13, z14, z15, z16, z17, z18, z19, z20, z21⟩ := hW
        go_simp
        try with_reducible rfl
      simp only [Act.put, List.setIfInBounds_toArray, List.set_cons_zero, List.set_cons_succ]
      refine anyS_take (i := 17) (oi := _) (d := (some 23)) (v := ?_) rfl rfl (by kernel_rfl) (by kernel_rfl) (by kernel_rfl) (fun _ _ _ h => h) (YS.pure (by kernel_rfl) (fun W hW => ?_)) ?_
      rotate_left
      · obtain ⟨-, -, z0, z1, z2, z3, z4, z5, z6, z7, z8, z9, z10, z11, z12, z13, z14, z15, z16, z17, z18, z19, z20, z21⟩ := hW
        go_simp
        try with_reducible rfl
      simp only [Act.put, List.setIfInBounds_toArray, List.set_cons_zero, List.set_cons_succ]
      refine anyS_take (i := 18) (oi := _) (d := (some 24)) (v := ?_) rfl rfl (by kernel_rfl) (by kernel_rfl) (by kernel_rfl) (fun _ _ _ h => h) (YS.pure (by kernel_rfl) (fun W hW => ?_)) ?_
      rotate_left
      · obtain ⟨-, -, z0, z1, z2, z3, z4, z5, z6, z7, z8, z9, z10, z11, z12, z13, z14, z15, z16, z17, z18, z19, z20, z21⟩ := hW
        go_simp
        try with_reducible rfl
      simp only [Act.put, List.setIfInBounds_toArray, List.set_cons_zero, List.set_cons_succ]
      refine anyS_take (i := 19) (oi := _) (d := (some 25)) (v := ?_) rfl rfl (by kernel_rfl) (by kernel_rfl) (by kernel_rfl) (fun _ _ _ h => h) (YS.call (f := ?_) (args := ?_) (by kernel_rfl) (fun W hW => ?_) (fun W hW => ?_)) ?_
      rotate_left 3
      · obtain ⟨-, -, z0, z1, z2, z3, z4, z5, z6, z7, z8, z9, z10, z11, z12, z13, z14, z15, z16, z17, z18, z19, z20, z21⟩ := hW
        go_simp
        try (refine And.intro ?_ ?_ <;> with_reducible rfl)
      · exact ES.out _ hW
      simp only [Act.put, List.setIfInBounds_toArray, List.set_cons_zero, List.set_cons_succ]
      refine anyS_take (i := 20) (oi := _) (d := (some 26)) (v := ?_) rfl rfl (by kernel_rfl) (by kernel_rfl) (by kernel_rfl) (fun _ _ _ h => h) (YS.pure (by kernel_rfl) (fun W hW => ?_)) ?_
      rotate_left
      · obtain ⟨-, -, z0, z1, z2, z3, z4, z5, z6, z7, z8, z9, z10, z11, z12, z13, z14, z15, z16, z17, z18, z19, z20, z21⟩ := hW
        go_simp
        try with_reducible rfl
      simp only [Act.put, List.setIfInBounds_toArray, List.set_cons_zero, List.set_cons_succ]
      refine anyS_take (i := 21) (oi := _) (d := (some 4)) (v := ?_) rfl rfl (by kernel_rfl) (by kernel_rfl) (by kernel_rfl) (fun _ _ _ h => h) (YS.pure (by kernel_rfl) (fun W hW => ?_)) ?_
      rotate_left
      · obtain ⟨-, -, z0, z1, z2, z3, z4, z5, z6, z7, z8, z9, z10, z11, z12, z13, z14, z15, z16, z17, z18, z19, z20, z21⟩ := hW
        go_simp
        try with_reducible rfl
      simp only [Act.put, List.setIfInBounds_toArray, List.set_cons_zero, List.set_cons_succ]
      refine anyS_done (by kernel_rfl) (fun W hW => ?_) _
      go_wp2
      go_ret
      exact ⟨rfl, hW.1⟩
end Go.Proofs.YtjakdbahopbggaaGreatDoor
