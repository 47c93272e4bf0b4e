/- callboardlaw30.SaveChanged's walk: what it compares is so. Conditions: what its calls answer. -/
import Derived.Test.YtjakdbahopbggaaGreatDoorZK38
import Derived.Test.YtjakdbahopbggaaGreatDoorZK41
import Derived.Test.YtjakdbahopbggaaGreatDoorZInv2
namespace Go.Proofs.YtjakdbahopbggaaGreatDoor
open Go.RowKit Go.Ow Go.Wi Go.Inv2

theorem delL_len (l : List En) (k : List UInt8) : (delL l k).length ≤ l.length := by
  unfold delL
  split
  · simp; omega
  · exact Nat.le_refl _
theorem putL_len (l : List En) (k v : List UInt8) : (putL l k v).length ≤ l.length + 1 := by
  unfold putL
  split
  · simp
  · simp; omega
theorem dels_len (ds : List (List UInt8)) : ∀ z : List En, (ds.foldl delL z).length ≤ z.length := by
  induction ds with
  | nil => exact fun z => Nat.le_refl _
  | cons d ds ih => exact fun z => Nat.le_trans (ih _) (delL_len z d)
theorem puts_len (ps : List En) : ∀ z : List En, (ps.foldl (fun z e => putL z e.k e.v) z).length ≤ z.length + ps.length := by
  induction ps with
  | nil => exact fun z => Nat.le_refl _
  | cons d ds ih => exact fun z => by have := ih (putL z d.k d.v); have := putL_len z d.k d.v; simp only [List.foldl_cons, List.length_cons]; omega
theorem EnO.ena2 {w : World} {B : Nat} {v : Value} {l : List En} (h : EnO w B v l) : ∃ o c, v = .slice o l.length c ∧ (o = none → c = 0) ∧ EnA w o l := by
  obtain ⟨o, c, rfl, _, ha⟩ := h.ena
  refine ⟨o, c, rfl, ?_, ha⟩
  rintro rfl
  rcases h.2 with ⟨h1, _⟩ | ⟨g, cap, cur, h1, _⟩
  · simp only [Value.slice.injEq] at h1; exact h1.2.2
  · simp at h1
theorem EnO.cap0 {w : World} {B n c : Nat} {o : Option Addr} {l : List En} (h : EnO w B (.slice o n c) l) : o = none → c = 0 := by
  rintro rfl
  rcases h.2 with ⟨h1, _⟩ | ⟨g, cap, cur, h1, _⟩
  · simp only [Value.slice.injEq] at h1; exact h1.2.2
  · simp at h1
theorem take_fold {α β : Type} (f : β → α → β) (l : List α) (i : Nat) (x : α) (z : β) (h : l[i]? = some x) : (l.take (i + 1)).foldl f z = f ((l.take i).foldl f z) x := by
  rw [List.take_add_one, h, List.foldl_append]
  rfl

/-- what each operation of the region leaves -/
def scpF (ix n c2 nz cz : Nat) (B : Nat) (o2 oz : Option Addr) (pt : Value) (pv : Value) (ke va : List UInt8) (l : List En) : Nat → Value → List Value → World → Prop
  | 0, u, _, _ => u = .slice oz nz cz
  | 1, u, _, _ => u = .slice o2 n c2
  | 2, u, _, _ => u = .int .i64 ix
  | 3, u, _, _ => u = pt
  | 4, u, _, _ => u = pt
  | 5, u, _, _ => u = strL' ke
  | 6, u, _, _ => u = .slice o2 n c2
  | 7, u, _, _ => u = .int .i64 ix
  | 8, u, _, _ => u = pt
  | 9, u, _, _ => u = pv
  | 10, u, _, _ => u = strL' va
  | 11, u, _, w => EnO w B u l
  | 12, u, ds, _ => u = ds.getD 0 undef
  | _, _, _, _ => True
def scpAnc (i : Nat) : List Nat := ([[], [], [], [1, 2], [1, 2, 3], [1, 2, 3, 4], [], [], [6, 7], [6, 7, 8], [6, 7, 8, 9], [0, 1, 2, 3, 4, 5, 6, 7, 8, 9, 10], [0, 1, 2, 3, 4, 5, 6, 7, 8, 9, 10, 11]] : List (List Nat)).getD i []
def scpNeed (i : Nat) : List Nat := ([[], [], [], [1, 2], [3], [4], [], [], [6, 7], [8], [9], [0, 5, 10], [11]] : List (List Nat)).getD i []
def scpDep (i : Nat) : List Nat := ([[], [], [], [], [], [], [], [], [], [], [], [], [11]] : List (List Nat)).getD i []
def scpKill (_ _ : Nat) : Bool := false
def scpPure (j : Nat) : Bool := !([11].contains j)
theorem scpF_pure {j : Nat} {u : Value} {ds : List Value} {w w' : World} {ix n c2 nz cz : Nat} {B : Nat} {o2 oz : Option Addr} {pt : Value} {pv : Value} {ke va : List UInt8} {l : List En} (hp : scpPure j = true) (h : scpF ix n c2 nz cz B o2 oz pt pv ke va l j u ds w) : scpF ix n c2 nz cz B o2 oz pt pv ke va l j u ds w' := by
  match j with
  | 0 => exact h
  | 1 => exact h
  | 2 => exact h
  | 3 => exact h
  | 4 => exact h
  | 5 => exact h
  | 6 => exact h
  | 7 => exact h
  | 8 => exact h
  | 9 => exact h
  | 10 => exact h
  | 11 => exact absurd hp (by decide)
  | 12 => exact h
  | _ + 13 => trivial
theorem scpF_mono {j : Nat} {u : Value} {ds : List Value} {w w' : World} {ix n c2 nz cz : Nat} {B : Nat} {o2 oz : Option Addr} {pt : Value} {pv : Value} {ke va : List UInt8} {l : List En} (hb : Below w.heap.size w w') (h : scpF ix n c2 nz cz B o2 oz pt pv ke va l j u ds w) : scpF ix n c2 nz cz B o2 oz pt pv ke va l j u ds w' := by
  match j with
  | 0 => exact h
  | 1 => exact h
  | 2 => exact h
  | 3 => exact h
  | 4 => exact h
  | 5 => exact h
  | 6 => exact h
  | 7 => exact h
  | 8 => exact h
  | 9 => exact h
  | 10 => exact h
  | 11 => exact EnO.below h hb
  | 12 => exact h
  | _ + 13 => trivial
theorem scpKeep (x : List Nat) {i : Nat} (h : ((List.range 13).all fun j => scpPure j || j == i || scpKill i j || (scpAnc j).contains i || x.contains j) = true) {w w' : World} {ix n c2 nz cz : Nat} {B : Nat} {o2 oz : Option Addr} {pt : Value} {pv : Value} {ke va : List UInt8} {l : List En} : ∀ j (vs' : Nat → Value), j ≠ i → scpKill i j = false → (scpAnc j).contains i = false → (x.contains j = false) →
    asrt (scpF ix n c2 nz cz B o2 oz pt pv ke va l) scpDep j vs' w → asrt (scpF ix n c2 nz cz B o2 oz pt pv ke va l) scpDep j vs' w' := by
  intro j vs' h1 h2 h3 h0 h4
  by_cases hj : j < 13
  · have := List.all_eq_true.1 h j (List.mem_range.2 hj)
    rw [h2, h3, h0] at this
    simp only [Bool.or_false, Bool.or_eq_true, beq_iff_eq] at this
    rcases this with h5 | h5
    · exact scpF_pure h5 h4
    · exact absurd h5 h1
  · exact scpF_pure (by unfold scpPure; simp; omega) h4
theorem scpAnc_out {j : Nat} (h : 13 ≤ j) : scpAnc j = [] := by
  unfold scpAnc
  rw [List.getD_eq_getElem?_getD, List.getElem?_eq_none (by simpa using h)]
  rfl
theorem scpDep_out {j : Nat} (h : 13 ≤ j) : scpDep j = [] := by
  unfold scpDep
  rw [List.getD_eq_getElem?_getD, List.getElem?_eq_none (by simpa using h)]
  rfl
theorem scpDep_anc : ∀ j, ∀ d ∈ scpDep j, d ∈ scpAnc j := by
  intro j d hd
  by_cases h : j < 13
  · exact (by decide : ∀ j, j < 13 → ∀ d ∈ scpDep j, d ∈ scpAnc j) j h d hd
  · rw [scpDep_out (by omega)] at hd
    cases hd
set_option maxRecDepth 100000 in
set_option maxHeartbeats 40000000 in
theorem saveChanged_walk (a b : Sm) (w : World) (PA PB : Prop) (X Y : List En) (ra rb same : Bool) (hX : PA → Rise X ∧ X.length ≤ 5000) (hY : PB → Rise Y ∧ Y.length ≤ 5000) (hsame : PA → PB → (same = true ↔ X = Y))
    (LA : ∀ W, Below w.heap.size w W → Calls Tryz.prog 5 #[.agg a.cs] W fun e w' => e = .returned (.bool ra) ∧ Below W.heap.size W w')
    (LB : ∀ W, Below w.heap.size w W → Calls Tryz.prog 5 #[.agg b.cs] W fun e w' => e = .returned (.bool rb) ∧ Below W.heap.size W w')
    (AW : ∀ W, Below w.heap.size w W → Calls Tryz.prog 6 #[] W fun e w' => e = .returned (.bool true) ∧ Below W.heap.size W w')
    (KA : ra = false → ∀ W, Below w.heap.size w W → Calls Tryz.prog 7 #[.agg a.cs] W (KR PA X W))
    (KB : rb = false → ∀ W, Below w.heap.size w W → Calls Tryz.prog 7 #[.agg b.cs] W (KR PB Y W))
    (CAB : ra = false → rb = false → ∀ W, Below w.heap.size w W → Calls Tryz.prog 8 #[.agg a.cs, .agg b.cs] W (CR (PA ∧ PB) (newL Y X) ((goneL X Y).map (·.k)) W))
    (CBA : ra = false → rb = false → ∀ W, Below w.heap.size w W → Calls Tryz.prog 8 #[.agg b.cs, .agg a.cs] W (CR (PB ∧ PA) (newL X Y) ((goneL Y X).map (·.k)) W))
    (S18 : ra = false → rb = false → ∀ W, Below w.heap.size w W → Calls Tryz.prog 14 #[.agg a.cs, .agg b.cs] W fun e w' => e = .returned (.bool same) ∧ Below W.heap.size W w') :
    Calls Tryz.prog 3 #[.agg a.cs, .agg b.cs] w fun e w' => e = .returned (.bool true) ∧ Below w.heap.size w w' := by
  have HX := Lib.hid hX
  have HY := Lib.hid hY
  have HSM := Lib.hid hsame
  have LA := Lib.hid LA
  have LB := Lib.hid LB
  have AW := Lib.hid AW
  have KA := Lib.hid KA
  have KB := Lib.hid KB
  have CAB := Lib.hid CAB
  have CBA := Lib.hid CBA
  have S18 := Lib.hid S18
  have hb0 : Below w.heap.size w ((w.alloc (.cells a.cs 27)).alloc (.cells b.cs 27)) := ((Below.refl _ _).alloc (Nat.le_refl _) _).alloc (by simp) _
  have HB0 := Lib.hid hb0
  have hbxA : ∀ W, Below ((w.alloc (.cells a.cs 27)).alloc (.cells b.cs 27)).heap.size ((w.alloc (.cells a.cs 27)).alloc (.cells b.cs 27)) W → ∀ r u, a.cs[r]? = some u → W.cell? ⟨w.heap.size, r, none⟩ = some u := fun W hb r u hr => by
    have hlt : w.heap.size < ((w.alloc (.cells a.cs 27)).alloc (.cells b.cs 27)).heap.size := by simp; omega
    have h2 : ((w.alloc (.cells a.cs 27)).alloc (.cells b.cs 27)).heap[w.heap.size]? = some (.cells a.cs 27 (0, 0)) := by
      rw [Below.heap_alloc _ _ _ (by simp)]
      exact heap_alloc_new w _
    rw [hb.cell (p := ⟨w.heap.size, r, none⟩) hlt, cell_of_row _ _ r _ _ (0, 0) h2]
    exact hr
  have hbxB : ∀ W, Below ((w.alloc (.cells a.cs 27)).alloc (.cells b.cs 27)).heap.size ((w.alloc (.cells a.cs 27)).alloc (.cells b.cs 27)) W → ∀ r u, b.cs[r]? = some u → W.cell? ⟨w.heap.size + 1, r, none⟩ = some u := fun W hb r u hr => by
    have hlt : w.heap.size + 1 < ((w.alloc (.cells a.cs 27)).alloc (.cells b.cs 27)).heap.size := by simp
    have h2 : ((w.alloc (.cells a.cs 27)).alloc (.cells b.cs 27)).heap[w.heap.size + 1]? = some (.cells b.cs 27 (0, 0)) := by
      have := heap_alloc_new (w.alloc (.cells a.cs 27)) (.cells b.cs 27)
      simpa using this
    rw [hb.cell (p := ⟨w.heap.size + 1, r, none⟩) hlt, cell_of_row _ _ r _ _ (0, 0) h2]
    exact hr
  have HBA := Lib.hid hbxA
  have HBB := Lib.hid hbxB
  clear hX hY hsame hb0 hbxA hbxB
  cases ra with
  | true =>
    go_enter Tryz.func3, Tryz.ntmps3
    go_wp2_with (first
      | (go_at_call 5; with_reducible refine (LA.out _ HB0.out).mono ?_; rintro e w1 ⟨rfl, hb1⟩)
      | (go_at_call 6; with_reducible refine (AW.out w1 (below_step HB0.out hb1)).mono ?_; rintro e w2 ⟨rfl, hb2⟩))
    go_ret
    exact ⟨rfl, below_step (below_step HB0.out hb1) hb2⟩
  | false =>
  cases rb with
  | true =>
    go_enter Tryz.func3, Tryz.ntmps3
    go_wp2_with (first
      | (go_at_call 5; with_reducible refine (LA.out _ HB0.out).mono ?_; rintro e w1 ⟨rfl, hb1⟩; have kb0 := HBB.out w1 hb1 0 _ rfl; have kb1 := HBB.out w1 hb1 1 _ rfl; have kb2 := HBB.out w1 hb1 2 _ rfl; have kb3 := HBB.out w1 hb1 3 _ rfl; have kb4 := HBB.out w1 hb1 4 _ rfl; have kb5 := HBB.out w1 hb1 5 _ rfl)
      | (go_at_call 5; with_reducible refine (LB.out w1 (below_step HB0.out hb1)).mono ?_; rintro e w2 ⟨rfl, hb2⟩)
      | (go_at_call 6; with_reducible refine (AW.out w2 (below_step (below_step HB0.out hb1) hb2)).mono ?_; rintro e w3 ⟨rfl, hb3⟩))
    go_ret
    exact ⟨rfl, below_step (below_step (below_step HB0.out hb1) hb2) hb3⟩
  | false =>
  go_enter Tryz.func3, Tryz.ntmps3
  go_upto_region 3 with (first
    | (go_at_call 5; with_reducible refine (LA.out _ HB0.out).mono ?_; rintro e w1 ⟨rfl, hb1⟩; have kb0 := HBB.out w1 hb1 0 _ rfl; have kb1 := HBB.out w1 hb1 1 _ rfl; have kb2 := HBB.out w1 hb1 2 _ rfl; have kb3 := HBB.out w1 hb1 3 _ rfl; have kb4 := HBB.out w1 hb1 4 _ rfl; have kb5 := HBB.out w1 hb1 5 _ rfl)
    | (go_at_call 5; with_reducible refine (LB.out w1 (below_step HB0.out hb1)).mono ?_; rintro e w2 ⟨rfl, hb2⟩)
    | (go_at_call 6; with_reducible refine (AW.out w2 (below_step (below_step HB0.out hb1) hb2)).mono ?_; rintro e w3 ⟨rfl, hb3⟩))
  -- the world with the boxes, behind a name
  obtain ⟨W2, HWW⟩ : ∃ W2 : World, Hid (Below w.heap.size w W2 ∧ w.heap.size ≤ W2.heap.size ∧ Below W2.heap.size W2 w3 ∧ (∀ W, Below W2.heap.size W2 W → ∀ r u, a.cs[r]? = some u → W.cell? ⟨w.heap.size, r, none⟩ = some u) ∧ ∀ W, Below W2.heap.size W2 W → ∀ r u, b.cs[r]? = some u → W.cell? ⟨w.heap.size + 1, r, none⟩ = some u) :=
    ⟨((w.alloc (.cells a.cs 27)).alloc (.cells b.cs 27)), Lib.hid ⟨HB0.out, HB0.out.size, below_step (below_step hb1 hb2) hb3, HBA.out, HBB.out⟩⟩
  clear hb1 hb2 hb3 kb0 kb1 kb2 kb3 kb4 kb5 HB0 HBA HBB LA LB AW
  obtain ⟨hW2, hle, hb3, hbxA, hbxB⟩ := HWW.out
  have HBW := Lib.hid hW2
  have HLE := Lib.hid hle
  have HBA := Lib.hid hbxA
  have HBB := Lib.hid hbxB
  have HB3 := Lib.hid hb3
  have ka0 := HBA.out w3 HB3.out 0 _ rfl
  have ka1 := HBA.out w3 HB3.out 1 _ rfl
  have ka2 := HBA.out w3 HB3.out 2 _ rfl
  have ka3 := HBA.out w3 HB3.out 3 _ rfl
  have ka4 := HBA.out w3 HB3.out 4 _ rfl
  have ka5 := HBA.out w3 HB3.out 5 _ rfl
  have A1 := Lib.hid (KA.out (by first | rfl | trivial) w3 (HBW.out.trans (hb3.mono hle)))
  clear hW2 hbxA hbxB HWW hb3
  go_upto_region 4 with (go_at_call 7; with_reducible refine A1.out.mono ?_; rintro e w4 hK; obtain ⟨o1, n1, c1, b1, rfl, hc1, hp1, ho1, hb4⟩ := hK.out)
  have hb4' := HB3.out.trans (hb4.mono HB3.out.size)
  have HB4 := Lib.hid hb4'
  have HP1 := Lib.hid hp1
  have HO1 := Lib.hid ho1
  clear A1 ka0 ka1 ka2 ka3 ka4 ka5 hb4 hp1 ho1
  have kb0 := HBB.out w4 HB4.out 0 _ rfl
  have kb1 := HBB.out w4 HB4.out 1 _ rfl
  have kb2 := HBB.out w4 HB4.out 2 _ rfl
  have kb3 := HBB.out w4 HB4.out 3 _ rfl
  have kb4 := HBB.out w4 HB4.out 4 _ rfl
  have kb5 := HBB.out w4 HB4.out 5 _ rfl
  have A2 := Lib.hid (KB.out (by first | rfl | trivial) w4 (HBW.out.trans (hb4'.mono hle)))
  clear hb4'
  go_upto_region 5 with (go_at_call 7; with_reducible refine A2.out.mono ?_; rintro e w5 hK; obtain ⟨o2, n2, c2, b2, rfl, hc2, hp2, ho2, hb5⟩ := hK.out)
  have hb5' := HB4.out.trans (hb5.mono HB4.out.size)
  have HB5 := Lib.hid hb5'
  have HP2 := Lib.hid hp2
  have HO2 := Lib.hid ho2
  have HO1' := Lib.hid (HO1.out.below hb5)
  clear A2 kb0 kb1 kb2 kb3 kb4 kb5 hb5 hp2 ho2 HO1
  have ka0 := HBA.out w5 HB5.out 0 _ rfl
  have ka1 := HBA.out w5 HB5.out 1 _ rfl
  have ka2 := HBA.out w5 HB5.out 2 _ rfl
  have ka3 := HBA.out w5 HB5.out 3 _ rfl
  have ka4 := HBA.out w5 HB5.out 4 _ rfl
  have ka5 := HBA.out w5 HB5.out 5 _ rfl
  have kb0 := HBB.out w5 HB5.out 0 _ rfl
  have kb1 := HBB.out w5 HB5.out 1 _ rfl
  have kb2 := HBB.out w5 HB5.out 2 _ rfl
  have kb3 := HBB.out w5 HB5.out 3 _ rfl
  have kb4 := HBB.out w5 HB5.out 4 _ rfl
  have kb5 := HBB.out w5 HB5.out 5 _ rfl
  have A3 := CAB.out (by first | rfl | trivial) (by first | rfl | trivial) w5 (HBW.out.trans (hb5'.mono hle))
  clear hb5'
  -- both may be told, or not
  have hcr : (b1 && b2) = false → Calls Tryz.prog 8 #[.agg a.cs, .agg b.cs] w5 fun e w' => e = .returned (.tuple #[.slice none 0 0, .slice none 0 0, .int .i64 4]) ∧ Below w5.heap.size w5 w' := fun h => A3.mono fun e w' ⟨h1, h2⟩ => by
    rcases h1 with ⟨⟨q1, q2⟩, _⟩ | ⟨_, h1⟩
    · rw [HP1.out.2 q1, HP2.out.2 q2] at h
      cases h
    · exact ⟨h1, h2⟩
  have HCR := Lib.hid hcr
  have A3 := Lib.hid A3
  clear hcr
  by_cases hbb : (b1 && b2) = false
  case pos =>
    have A4 := Lib.hid (HCR.out hbb)
    have hcs : (b1 = false) ∨ (b1 = true ∧ b2 = false) := by cases b1 <;> cases b2 <;> simp_all
    clear hbb HCR A3
    rcases hcs with rfl | ⟨rfl, rfl⟩
    · cases b2
      all_goals
        try simp only [cond]
        go_wp2_with (go_at_call 8; with_reducible refine A4.out.mono ?_; rintro e w6 ⟨rfl, hb6⟩)
        go_ret
        exact ⟨rfl, HBW.out.trans ((HB5.out.trans (hb6.mono HB5.out.size)).mono HLE.out)⟩
    · try simp only [cond]
      go_wp2_with (go_at_call 8; with_reducible refine A4.out.mono ?_; rintro e w6 ⟨rfl, hb6⟩)
      go_ret
      exact ⟨rfl, HBW.out.trans ((HB5.out.trans (hb6.mono HB5.out.size)).mono HLE.out)⟩
  have hb12 : b1 = true ∧ b2 = true := by cases b1 <;> cases b2 <;> simp_all
  obtain ⟨rfl, rfl⟩ := hb12
  have HPA : Hid PA := Lib.hid (HP1.out.1 (by first | rfl | trivial))
  have HPB : Hid PB := Lib.hid (HP2.out.1 (by first | rfl | trivial))
  try simp only [cond]
  have hx : EnO w5 _ (.slice o1 n1 c1) X := HO1'.out
  have hy : EnO w5 _ (.slice o2 n2 c2) Y := HO2.out
  obtain rfl := hx.len
  obtain rfl := hy.len
  have HXE := Lib.hid hx.en
  have HYE := Lib.hid hy.en
  have HC1 := Lib.hid hx.cap0
  have HXX := Lib.hid (HX.out HPA.out)
  have HYY := Lib.hid (HY.out HPB.out)
  have HSE := Lib.hid (HSM.out HPA.out HPB.out)
  have A4 : Hid (Calls Tryz.prog 8 #[.agg a.cs, .agg b.cs] w5 fun e w' => ∃ o c o' c', e = .returned (.tuple #[.slice o (newL Y X).length c, .slice o' ((goneL X Y).map (·.k)).length c', .int .i64 0]) ∧ EnA w' o (newL Y X) ∧ KyA w' o' ((goneL X Y).map (·.k)) ∧ Below w5.heap.size w5 w') := Lib.hid (A3.out.mono fun e w' ⟨h1, h2⟩ => by
    rcases h1 with ⟨_, o, c, o', c', e1, e2, e3⟩ | ⟨h1, _⟩
    · exact ⟨o, c, o', c', e1, e2, e3, h2⟩
    · exact absurd ⟨HPA.out, HPB.out⟩ h1)
  have A5 : ∀ W, Below w.heap.size w W → Calls Tryz.prog 8 #[.agg b.cs, .agg a.cs] W fun e w' => ∃ o c o' c', e = .returned (.tuple #[.slice o (newL X Y).length c, .slice o' ((goneL Y X).map (·.k)).length c', .int .i64 0]) ∧ EnA w' o (newL X Y) ∧ KyA w' o' ((goneL Y X).map (·.k)) ∧ Below W.heap.size W w' := fun W hW => (CBA.out (by first | rfl | trivial) (by first | rfl | trivial) W hW).mono fun e w' ⟨h1, h2⟩ => by
    rcases h1 with ⟨_, o, c, o', c', e1, e2, e3⟩ | ⟨h1, _⟩
    · exact ⟨o, c, o', c', e1, e2, e3, h2⟩
    · exact absurd ⟨HPB.out, HPA.out⟩ h1
  have hfin := turned HXX.out.1 HYY.out.1
  have his : ∀ j d, ((goneL X Y).map (·.k))[j]? = some d → hasK ((((goneL X Y).map (·.k)).take j).foldl delL X) d = true := fun j d h => by
    rw [List.getElem?_map, Option.map_eq_some_iff] at h
    obtain ⟨e, he, rfl⟩ := h
    obtain ⟨hlt, he⟩ := List.getElem?_eq_some_iff.1 he
    have := dels_is HXX.out.1 j hlt (y := Y)
    rwa [he] at this
  have hback : ∀ j d, ((goneL X Y).map (·.k))[j]? = some d → hasK (newL X Y) d = true := fun j d h => by
    rw [List.getElem?_map, Option.map_eq_some_iff] at h
    obtain ⟨e, he, rfl⟩ := h
    have hm := gone_new (List.mem_of_getElem? he)
    exact hasK_iff.2 ⟨_, getV_of_mem (HXX.out.1.filter _ : Rise (newL X Y)) hm⟩
  have hnew : ∀ (j : Nat) (e : En), (newL Y X)[j]? = some e → getV X e.k ≠ some e.v := fun j e h => (mem_new.1 (List.mem_of_getElem? h)).2
  have hcnt := counts HXX.out.1 HYY.out.1
  have hno := nothing HXX.out.1 HYY.out.1
  have hPl : (newL Y X).length ≤ 5000 := Nat.le_trans (List.length_filter_le _ _) HYY.out.2
  have hDl : ((goneL X Y).map (·.k)).length ≤ 5000 := by rw [List.length_map]; exact Nat.le_trans (List.length_filter_le _ _) HXX.out.2
  have hQl : (newL X Y).length ≤ 5000 := Nat.le_trans (List.length_filter_le _ _) HXX.out.2
  have hGl : ((goneL Y X).map (·.k)).length ≤ 5000 := by rw [List.length_map]; exact Nat.le_trans (List.length_filter_le _ _) HYY.out.2
  have hQr : Rise (newL X Y) := HXX.out.1.filter _
  have hPr : Rise (newL Y X) := HYY.out.1.filter _
  have el : ∀ l : List En, l.length = (l.map (fun e => e.k)).length := fun l => (List.length_map _).symm
  rw [el (goneL X Y), el (goneL Y X)] at hcnt
  rw [el (goneL X Y)] at hno
  clear el
  obtain ⟨P, hP⟩ : ∃ l, newL Y X = l := ⟨_, rfl⟩
  obtain ⟨D, hD⟩ : ∃ l, (goneL X Y).map (fun e => e.k) = l := ⟨_, rfl⟩
  obtain ⟨Q, hQ⟩ : ∃ l, newL X Y = l := ⟨_, rfl⟩
  obtain ⟨G, hG⟩ : ∃ l, (goneL Y X).map (fun e => e.k) = l := ⟨_, rfl⟩
  rw [hP] at A4 hfin hnew hcnt hno hPl hPr
  rw [hQ] at A5 hback hcnt hQl hQr
  simp only [hD] at A4 hfin his hback hcnt hno hDl
  simp only [hG] at A5 hcnt hGl
  have HFIN := Lib.hid hfin
  have HIS := Lib.hid his
  have HBK := Lib.hid hback
  have HNEW := Lib.hid hnew
  have HCNT := Lib.hid hcnt
  have HNO := Lib.hid hno
  have HQR := Lib.hid hQr
  have HPR := Lib.hid hPr
  have A5 := Lib.hid A5
  clear hx hy HO1' HO2 HP1 HP2 HCR A3 hbb hfin his hback hnew hcnt hno hQr hPr hP hD hQ hG HX HY HSM CAB CBA KA KB
  go_upto_region 6 with (go_at_call 8; with_reducible refine A4.out.mono ?_; rintro e w6 ⟨o3, c3, o4, c4, rfl, hp, hd, hb6⟩)
  have hb6' := HB5.out.trans (hb6.mono HB5.out.size)
  have HB6 := Lib.hid hb6'
  have HPE := Lib.hid hp
  have HDE := Lib.hid hd
  have HXE6 := Lib.hid (HXE.out.below hb6)
  have HYE6 := Lib.hid (HYE.out.below hb6)
  clear hp hd hb6 hb6' HXE HYE A4 ka0 ka1 ka2 ka3 ka4 ka5 kb0 kb1 kb2 kb3 kb4 kb5
  go_wp2
  go_loopg [12, 13] D.length (fun g V N wr => ∃ (j : Nat) (oz : Option Addr) (cz : Nat) (l : List En), j + g = D.length ∧ V = .slice oz l.length cz ∧ N = .int .i64 j ∧ Hid (l = (D.take j).foldl delL X ∧ (oz = none → cz = 0) ∧ EnA wr oz l) ∧ Hid (Below w6.heap.size w6 wr))
  case atStart => exact ⟨0, o1, c1, X, by omega, rfl, rfl, Lib.hid ⟨rfl, HC1.out, HXE6.out⟩, Lib.hid (Below.refl _ _)⟩
  case round =>
    obtain ⟨j, oz, cz, l, hj, rfl, rfl, HZ, HB⟩ := hrel
    by_cases hlt : j < D.length
    · obtain ⟨d, hd⟩ : ∃ x, D[j]? = some x := ⟨_, List.getElem?_eq_getElem hlt⟩
      obtain ⟨b9, off9, rfl, hb9, kd⟩ := (HDE.out.below HB.out) j d hd
      have i1 : (j : Int) < (D.length : Int) := by omega
      have i2 : (0 : Int) ≤ (j : Int) := by omega
      have hri : Rise l := by rw [HZ.out.1]; exact (dels_all (D.take j) X HXX.out.1).1
      have hll : l.length ≤ 20000 := by rw [HZ.out.1]; have := dels_len (D.take j) X; have := HXX.out.2; omega
      have hk : hasK l d = true := by rw [HZ.out.1]; exact HIS.out j d hd
      have DL := del_any oz cz l d wr HZ.out.2.2 hri hll HZ.out.2.1
      rw [hk] at DL
      have DL := Lib.hid DL
      have HNX : Hid (delL l d = (D.take (j + 1)).foldl delL X) := Lib.hid (by rw [take_fold delL D j d X hd, HZ.out.1])
      clear hri hll hk hd
      go_wp2_with (go_at_call 9; with_reducible refine DL.out.mono ?_; rintro e w7 ⟨u, rfl, hu, hb7⟩; obtain ⟨oz', cz', rfl, hz', hen'⟩ := hu.ena2)
      go_roundg (D.length - (j + 1))
      case measure => omega
      case rel => exact ⟨j + 1, oz', cz', delL l d, by omega, rfl, by go_num, Lib.hid ⟨HNX.out, hz', hen'⟩, Lib.hid (HB.out.trans (hb7.mono HB.out.size))⟩
    · obtain rfl : j = D.length := by omega
      have HZ0 : Hid (l = D.foldl delL X ∧ (oz = none → cz = 0) ∧ EnA wr oz l) := Lib.hid (by have := HZ.out; rwa [List.take_length] at this)
      have HBL := HB
      clear HZ HB
      go_wp2
      go_loopg [12, 15] P.length (fun g V N wr2 => ∃ (j : Nat) (oz : Option Addr) (cz : Nat) (l : List En), j + g = P.length ∧ V = .slice oz l.length cz ∧ N = .int .i64 j ∧ Hid (l = (P.take j).foldl (fun z e => putL z e.k e.v) (D.foldl delL X) ∧ (oz = none → cz = 0) ∧ EnA wr2 oz l) ∧ Hid (Below w6.heap.size w6 wr2))
      case atStart => exact ⟨0, oz, cz, l, by omega, rfl, rfl, Lib.hid ⟨HZ0.out.1, HZ0.out.2⟩, HBL⟩
      case round =>
        clear HZ0 HBL
        obtain ⟨j2, oz2, cz2, l2, hj2, rfl, rfl, HZ, HB⟩ := hrel
        by_cases hlt2 : j2 < P.length
        · obtain ⟨e, he⟩ : ∃ x, P[j2]? = some x := ⟨_, List.getElem?_eq_getElem hlt2⟩
          have FI := find_any o1 c1 X e.k wr (HXE6.out.below HB.out) HXX.out.1 (by have := HXX.out.2; omega)
          obtain ⟨q, hq⟩ : ∃ q, hasK X e.k = q := ⟨_, rfl⟩
          obtain ⟨v0, hv0⟩ : ∃ v, (getV X e.k).getD [] = v := ⟨_, rfl⟩
          have hnv : q = true → ¬ v0 = e.v := fun h1 h2 => by
            rw [h1] at hq
            obtain ⟨v, hv⟩ := hasK_iff.1 hq
            rw [hv] at hv0
            simp only [Option.getD_some] at hv0
            exact HNEW.out j2 e he (by rw [hv, hv0, h2])
          rw [hq, hv0] at FI
          have FI := Lib.hid FI
          obtain ⟨b8, off8, ho3, hb8, p0, p1⟩ := (HPE.out.below HB.out) j2 e he
          subst ho3
          have i1 : (j2 : Int) < (P.length : Int) := by omega
          have i2 : (0 : Int) ≤ (j2 : Int) := by omega
          have hri : Rise l2 := by rw [HZ.out.1]; exact (puts_all (P.take j2) _ (dels_all D X HXX.out.1).1 (HPR.out.sublist (List.take_sublist _ _))).1
          have hll : l2.length ≤ 20000 := by
            rw [HZ.out.1]
            have h1 := puts_len (P.take j2) (D.foldl delL X)
            have h2 := dels_len D X
            have h3 := HXX.out.2
            rw [List.length_take] at h1
            omega
          have HPU : Hid (∀ W, Below wr.heap.size wr W → Calls Tryz.prog 11 #[.slice oz2 l2.length cz2, strL' e.k, strL' e.v] W fun e' w' => ∃ u, e' = .returned u ∧ EnO w' W.heap.size u (putL l2 e.k e.v) ∧ Below W.heap.size W w') := Lib.hid (fun W hW => put_any oz2 cz2 l2 e.k e.v W (HZ.out.2.2.below hW) hri hll HZ.out.2.1)
          have HNX : Hid (putL l2 e.k e.v = (P.take (j2 + 1)).foldl (fun z e => putL z e.k e.v) (D.foldl delL X)) := Lib.hid (by rw [take_fold (fun z e => putL z e.k e.v) P j2 e _ he, HZ.out.1])
          have HP0 := Lib.hid p0
          have HP1 := Lib.hid p1
          clear hri hll he hq hv0 HZ
          go_upto_region 22 with (go_at_call 10; with_reducible refine FI.out.mono ?_; rintro r w7 ⟨rfl, hb7⟩)
          have HB7 := Lib.hid hb7
          have g0 : w7.cell? ⟨b8, off8 + j2 * 2, none⟩ = some (strL' e.k) := (hb7.cell (p := Addr.mk b8 (off8 + j2 * 2) Option.none) hb8).trans HP0.out
          have g1 : w7.cell? ⟨b8, off8 + j2 * 2 + 1, none⟩ = some (strL' e.v) := (hb7.cell (p := Addr.mk b8 (off8 + j2 * 2 + 1) Option.none) hb8).trans HP1.out
          have HG0 := Lib.hid g0
          have HG1 := Lib.hid g1
          have HLT8 : Hid (b8 < w7.heap.size) := Lib.hid (Nat.lt_of_lt_of_le hb8 hb7.size)
          clear hb7 p0 p1 FI
          cases q
          case' false =>
            clear hnv
            go_upto_region 24 with fail
          case' true =>
            have n1 : ¬ v0 = e.v := hnv (by first | rfl | trivial)
            have n2 : (v0 == e.v) = false := by simpa using n1
            clear hnv
            go_upto_region 24 with fail
          all_goals
            refine wp_region_asrt (by kernel_rfl) (Below w7.heap.size w7) (scpF j2 P.length c3 l2.length cz2 w7.heap.size (some ⟨b8, off8, none⟩) oz2 (.pointer (some ⟨b8, off8 + j2 * 2, none⟩)) (.pointer (some ⟨b8, off8 + j2 * 2 + 1, none⟩)) e.k e.v (putL l2 e.k e.v)) scpDep scpNeed scpAnc scpKill 13 [some 113, some 114, some 115, some 116, some 117, some 118, some 119, some 120, some 121, some 122, some 123, some 124, some 12] rfl rfl (by kernel_rfl) scpDep_anc (Below.refl _ _).drew (fun j h => scpAnc_out h) (fun j h => by
                match j, h with
                | _ + 13, _ => trivial) (fun j h => scpDep_out h) ⟨?_, ?_, ?_, ?_, ?_, ?_, ?_, ?_, ?_, ?_, ?_, ?_, ?_, trivial⟩ ?_
            · refine Step.mk (oi := _) rfl [] (fun cs b h => by cases h) (by kernel_rfl) (fun vs W hI hA => ?_)
              simp only [List.map]
              simp only [putR]
              refine SOp.val (v := .slice oz2 l2.length cz2) (w' := W) (by kernel_rfl) (by go_simp) ⟨hI, upd_self _ _ _, fun _ _ _ _ _ h => h⟩
            · refine Step.mk (oi := _) rfl [] (fun cs b h => by cases h) (by kernel_rfl) (fun vs W hI hA => ?_)
              simp only [List.map]
              simp only [putR]
              refine SOp.val (v := .slice (some ⟨b8, off8, none⟩) P.length c3) (w' := W) (by kernel_rfl) (by go_simp) ⟨hI, upd_self _ _ _, fun _ _ _ _ _ h => h⟩
            · refine Step.mk (oi := _) rfl [] (fun cs b h => by cases h) (by kernel_rfl) (fun vs W hI hA => ?_)
              simp only [List.map]
              simp only [putR]
              refine SOp.val (v := .int .i64 j2) (w' := W) (by kernel_rfl) (by go_simp) ⟨hI, upd_self _ _ _, fun _ _ _ _ _ h => h⟩
            · refine Step.mk (oi := _) rfl [(114, 1), (115, 2)] (fun cs b h => by cases h) (by kernel_rfl) (fun vs W hI hA => ?_)
              simp only [List.map]
              have h1 : vs 1 = .slice (some ⟨b8, off8, none⟩) P.length c3 := hA 1 (by decide)
              have h2 : vs 2 = .int .i64 j2 := hA 2 (by decide)
              rw [h1, h2]
              simp only [putR, Act.put, List.setIfInBounds_toArray, List.set_cons_zero, List.set_cons_succ]
              refine SOp.val (v := .pointer (some ⟨b8, off8 + j2 * 2, none⟩)) (w' := W) (by kernel_rfl) (by go_simp) ⟨hI, upd_self _ _ _, fun _ _ _ _ _ h => h⟩
            · refine Step.mk (oi := _) rfl [(116, 3)] (fun cs b h => by cases h) (by kernel_rfl) (fun vs W hI hA => ?_)
              simp only [List.map]
              have h3 : vs 3 = .pointer (some ⟨b8, off8 + j2 * 2, none⟩) := hA 3 (by decide)
              rw [h3]
              simp only [putR, Act.put, List.setIfInBounds_toArray, List.set_cons_zero, List.set_cons_succ]
              refine SOp.val (v := .pointer (some ⟨b8, off8 + j2 * 2, none⟩)) (w' := W) (by kernel_rfl) (by go_simp) ⟨hI, upd_self _ _ _, fun _ _ _ _ _ h => h⟩
            · refine Step.mk (oi := _) rfl [(117, 4)] (fun cs b h => by cases h) (by kernel_rfl) (fun vs W hI hA => ?_)
              simp only [List.map]
              have h4 : vs 4 = .pointer (some ⟨b8, off8 + j2 * 2, none⟩) := hA 4 (by decide)
              rw [h4]
              have d0 := (hI.cell (p := Addr.mk b8 (off8 + j2 * 2) Option.none) HLT8.out).trans HG0.out
              simp only [putR, Act.put, List.setIfInBounds_toArray, List.set_cons_zero, List.set_cons_succ]
              refine SOp.val (v := strL' e.k) (w' := W) (by kernel_rfl) (by go_simp) ⟨hI, upd_self _ _ _, fun _ _ _ _ _ h => h⟩
            · refine Step.mk (oi := _) rfl [] (fun cs b h => by cases h) (by kernel_rfl) (fun vs W hI hA => ?_)
              simp only [List.map]
              simp only [putR]
              refine SOp.val (v := .slice (some ⟨b8, off8, none⟩) P.length c3) (w' := W) (by kernel_rfl) (by go_simp) ⟨hI, upd_self _ _ _, fun _ _ _ _ _ h => h⟩
            · refine Step.mk (oi := _) rfl [] (fun cs b h => by cases h) (by kernel_rfl) (fun vs W hI hA => ?_)
              simp only [List.map]
              simp only [putR]
              refine SOp.val (v := .int .i64 j2) (w' := W) (by kernel_rfl) (by go_simp) ⟨hI, upd_self _ _ _, fun _ _ _ _ _ h => h⟩
            · refine Step.mk (oi := _) rfl [(119, 6), (120, 7)] (fun cs b h => by cases h) (by kernel_rfl) (fun vs W hI hA => ?_)
              simp only [List.map]
              have h6 : vs 6 = .slice (some ⟨b8, off8, none⟩) P.length c3 := hA 6 (by decide)
              have h7 : vs 7 = .int .i64 j2 := hA 7 (by decide)
              rw [h6, h7]
              simp only [putR, Act.put, List.setIfInBounds_toArray, List.set_cons_zero, List.set_cons_succ]
              refine SOp.val (v := .pointer (some ⟨b8, off8 + j2 * 2, none⟩)) (w' := W) (by kernel_rfl) (by go_simp) ⟨hI, upd_self _ _ _, fun _ _ _ _ _ h => h⟩
            · refine Step.mk (oi := _) rfl [(121, 8)] (fun cs b h => by cases h) (by kernel_rfl) (fun vs W hI hA => ?_)
              simp only [List.map]
              have h8 : vs 8 = .pointer (some ⟨b8, off8 + j2 * 2, none⟩) := hA 8 (by decide)
              rw [h8]
              simp only [putR, Act.put, List.setIfInBounds_toArray, List.set_cons_zero, List.set_cons_succ]
              refine SOp.val (v := .pointer (some ⟨b8, off8 + j2 * 2 + 1, none⟩)) (w' := W) (by kernel_rfl) (by go_simp) ⟨hI, upd_self _ _ _, fun _ _ _ _ _ h => h⟩
            · refine Step.mk (oi := _) rfl [(122, 9)] (fun cs b h => by cases h) (by kernel_rfl) (fun vs W hI hA => ?_)
              simp only [List.map]
              have h9 : vs 9 = .pointer (some ⟨b8, off8 + j2 * 2 + 1, none⟩) := hA 9 (by decide)
              rw [h9]
              have d0 := (hI.cell (p := Addr.mk b8 (off8 + j2 * 2 + 1) Option.none) HLT8.out).trans HG1.out
              simp only [putR, Act.put, List.setIfInBounds_toArray, List.set_cons_zero, List.set_cons_succ]
              refine SOp.val (v := strL' e.v) (w' := W) (by kernel_rfl) (by go_simp) ⟨hI, upd_self _ _ _, fun _ _ _ _ _ h => h⟩
            · refine Step.mk (oi := _) rfl [(113, 0), (118, 5), (123, 10)] (fun cs b h => by cases h) (by kernel_rfl) (fun vs W hI hA => ?_)
              simp only [List.map]
              have h0 : vs 0 = .slice oz2 l2.length cz2 := hA 0 (by decide)
              have h5 : vs 5 = strL' e.k := hA 5 (by decide)
              have h10 : vs 10 = strL' e.v := hA 10 (by decide)
              rw [h0, h5, h10]
              simp only [putR, Act.put, List.setIfInBounds_toArray, List.set_cons_zero, List.set_cons_succ]
              refine SOp.enter (f := 11) (args := #[.slice oz2 l2.length cz2, strL' e.k, strL' e.v]) (by kernel_rfl) (by go_simp) ((HPU.out W (HB7.out.trans (hI.mono HB7.out.size))).mono ?_)
              rintro r w8 ⟨u, rfl, ho, hb⟩
              refine ⟨u, rfl, hI.trans (hb.mono hI.size), (show asrt (scpF j2 P.length c3 l2.length cz2 w7.heap.size (some ⟨b8, off8, none⟩) oz2 (.pointer (some ⟨b8, off8 + j2 * 2, none⟩)) (.pointer (some ⟨b8, off8 + j2 * 2 + 1, none⟩)) e.k e.v (putL l2 e.k e.v)) scpDep 11 (upd vs 11 u) w8 from by show EnO w8 w7.heap.size (upd vs 11 u 11) _; rw [upd_self]; exact ho.base hI.size), ?_⟩
              intro j vs' a1 a2 a3 a4
              exact scpF_mono hb a4
            · refine Step.mk (oi := _) rfl [(124, 11)] (fun cs b h => by cases h) (by kernel_rfl) (fun vs W hI hA => ?_)
              simp only [List.map]
              simp only [putR, Act.put, List.setIfInBounds_toArray, List.set_cons_zero, List.set_cons_succ]
              refine SOp.val (v := vs 11) (w' := W) (by kernel_rfl) (by go_simp) ⟨hI, ?_, fun _ _ _ _ _ h => h⟩
              show upd vs 12 (vs 11) 12 = upd vs 12 (vs 11) 11
              rw [upd_self]
              rfl
            · intro vs V hI hφ
              have q12 : vs 12 = vs 11 := hφ 12 (fun k _ => by rfl)
              have q11 : EnO V w7.heap.size (vs 11) (putL l2 e.k e.v) := hφ 11 (fun k _ => by rfl)
              clear hφ
              simp only [putAll, Act.put, List.setIfInBounds_toArray, List.set_cons_zero, List.set_cons_succ]
              obtain ⟨oz', cz', e1, hz', hen'⟩ := q11.ena2
              rw [q12, e1]
              have HB8 : Hid (Below w6.heap.size w6 V) := Lib.hid (HB.out.trans ((HB7.out.trans (hI.mono HB7.out.size)).mono HB.out.size))
              have HZ9 : Hid (putL l2 e.k e.v = (P.take (j2 + 1)).foldl (fun z e => putL z e.k e.v) (D.foldl delL X) ∧ (oz' = none → cz' = 0) ∧ EnA V oz' (putL l2 e.k e.v)) := Lib.hid ⟨HNX.out, hz', hen'⟩
              clear hI q11 q12 e1 hz' hen'
              go_wp2
              go_roundg (P.length - (j2 + 1))
              case measure => omega
              case rel => exact ⟨j2 + 1, oz', cz', putL l2 e.k e.v, by omega, rfl, by go_num, HZ9, HB8⟩
        · obtain rfl : j2 = P.length := by omega
          have e2 : l2 = Y := by rw [HZ.out.1, List.take_length]; exact HFIN.out
          subst e2
          have HBL := HB
          have TD1 := Lib.hid (told_any oz2 cz2 l2 wr HZ.out.2.2 (by have := HYY.out.2; omega))
          have TD2 := Lib.hid (fun W (hb : Below wr.heap.size wr W) => told_any o2 c2 l2 W (HYE6.out.below (HB.out.trans (hb.mono HB.out.size))) (by have := HYY.out.2; omega))
          have hbs : Below W2.heap.size W2 wr := HB6.out.trans (HB.out.mono HB6.out.size)
          have HBS := Lib.hid hbs
          have hyl : l2.length ≤ 20000 := by have := HYY.out.2; omega
          have hw : Below w.heap.size w wr := HBW.out.trans (hbs.mono HLE.out)
          have HWR := Lib.hid hw
          have ec : same = decide (P.length + D.length = 0) := by
            cases hs : same
            · rw [hs] at HSE
              symm
              rw [decide_eq_false_iff_not]
              intro h
              have := HSE.out.2 (HNO.out.1 h)
              cases this
            · rw [hs] at HSE
              symm
              rw [decide_eq_true_eq]
              exact HNO.out.2 (HSE.out.1 (by first | rfl | trivial))
          have HQC : Hid (((Q.length : Int) - (D.length : Int) != (P.length : Int) - (G.length : Int)) = false) := Lib.hid (by have := HCNT.out; simp; omega)
          have qc := HQC.out
          clear hbs hw HZ HB
          by_cases hz : P.length + D.length = 0
          case' pos =>
            rw [decide_eq_true hz] at ec
            subst ec
            have zc : ((P.length : Int) + (D.length : Int) == 0) = true := by simp; omega
          case' neg =>
            rw [decide_eq_false hz] at ec
            subst ec
            have zc : ((P.length : Int) + (D.length : Int) == 0) = false := by simp; omega
          all_goals
            clear hz
            go_upto_region 28 with (first
              | (go_at_call 13; with_reducible refine TD1.out.mono ?_; rintro r w8 ⟨u8, rfl, hu8, hb8⟩; obtain ⟨o8, c8, rfl, hc8, he8⟩ := own_ena hu8 (Eq.refl _))
              | (go_at_call 13; with_reducible refine (TD2.out w8 hb8).mono ?_; rintro r w9 ⟨u9, rfl, hu9, hb9⟩; obtain ⟨o9, c9, rfl, hc9, he9⟩ := own_ena hu9 (Eq.refl _))
              | (go_at_call 12; with_reducible refine (entries_same o8 o9 c8 c9 l2 w9 (he8.below hb9) he9 hyl).mono ?_; rintro r w10 ⟨rfl, hb10⟩; have hq10 := below_step (below_step hb8 hb9) hb10; have hr10 := HBS.out.trans (hq10.mono HBS.out.size); have ka0 := HBA.out w10 hr10 0 _ rfl; have ka1 := HBA.out w10 hr10 1 _ rfl; have ka2 := HBA.out w10 hr10 2 _ rfl; have ka3 := HBA.out w10 hr10 3 _ rfl; have ka4 := HBA.out w10 hr10 4 _ rfl; have ka5 := HBA.out w10 hr10 5 _ rfl; have kb0 := HBB.out w10 hr10 0 _ rfl; have kb1 := HBB.out w10 hr10 1 _ rfl; have kb2 := HBB.out w10 hr10 2 _ rfl; have kb3 := HBB.out w10 hr10 3 _ rfl; have kb4 := HBB.out w10 hr10 4 _ rfl; have kb5 := HBB.out w10 hr10 5 _ rfl)
              | (go_at_call 14; with_reducible refine (S18.out (by first | rfl | trivial) (by first | rfl | trivial) w10 (HWR.out.trans (hq10.mono HWR.out.size))).mono ?_; rintro r w11 ⟨rfl, hb11⟩; clear ka0 ka1 ka2 ka3 ka4 ka5 kb0 kb1 kb2 kb3 kb4 kb5; have hq11 := below_step hq10 hb11; have hr11 := HBS.out.trans (hq11.mono HBS.out.size); have ka0 := HBA.out w11 hr11 0 _ rfl; have ka1 := HBA.out w11 hr11 1 _ rfl; have ka2 := HBA.out w11 hr11 2 _ rfl; have ka3 := HBA.out w11 hr11 3 _ rfl; have ka4 := HBA.out w11 hr11 4 _ rfl; have ka5 := HBA.out w11 hr11 5 _ rfl; have kb0 := HBB.out w11 hr11 0 _ rfl; have kb1 := HBB.out w11 hr11 1 _ rfl; have kb2 := HBB.out w11 hr11 2 _ rfl; have kb3 := HBB.out w11 hr11 3 _ rfl; have kb4 := HBB.out w11 hr11 4 _ rfl; have kb5 := HBB.out w11 hr11 5 _ rfl)
              | (go_at_call 8; with_reducible refine (A5.out w11 (HWR.out.trans (hq11.mono HWR.out.size))).mono ?_; rintro r w12 ⟨o5, c5, o6, c6, rfl, hqe, hge, hb12⟩))
            have HQE := Lib.hid hqe
            have hq12 := below_step hq11 hb12
            have HDE12 := Lib.hid (HDE.out.below (HBL.out.trans (hq12.mono HBL.out.size)))
            have HW12 := Lib.hid (HWR.out.trans (hq12.mono HWR.out.size))
            clear hqe hge hb12 hb11 hb10 hb9 hb8 hq10 hq11 hr10 hr11 hq12 he8 he9 hu8 hu9 ka0 ka1 ka2 ka3 ka4 ka5 kb0 kb1 kb2 kb3 kb4 kb5
            go_wp2
            go_loopg [21] D.length (fun g N wr3 => ∃ j : Nat, j + g = D.length ∧ N = .int .i64 j ∧ Hid (Below w12.heap.size w12 wr3))
            case atStart => exact ⟨0, by omega, rfl, Lib.hid (Below.refl _ _)⟩
            case round =>
              obtain ⟨j3, hj3, rfl, HB3'⟩ := hrel
              by_cases hlt3 : j3 < D.length
              · obtain ⟨d, hd⟩ : ∃ x, D[j3]? = some x := ⟨_, List.getElem?_eq_getElem hlt3⟩
                obtain ⟨b9, off9, rfl, hb9, kd⟩ := (HDE12.out.below HB3'.out) j3 d hd
                have i1 : (j3 : Int) < (D.length : Int) := by omega
                have i2 : (0 : Int) ≤ (j3 : Int) := by omega
                have FB := find_any o5 c5 Q d wr (HQE.out.below HB3'.out) HQR.out (by omega)
                rw [HBK.out j3 d hd] at FB
                have FB := Lib.hid FB
                clear hd
                go_wp2_with (go_at_call 10; with_reducible refine FB.out.mono ?_; rintro r w13 ⟨rfl, hb13⟩)
                go_roundg (D.length - (j3 + 1))
                case measure => omega
                case rel => exact ⟨j3 + 1, by omega, by go_num, Lib.hid (below_step HB3'.out hb13)⟩
              · obtain rfl : j3 = D.length := by omega
                go_wp2
                go_ret
                exact ⟨rfl, HW12.out.trans (HB3'.out.mono HW12.out.size)⟩
end Go.Proofs.YtjakdbahopbggaaGreatDoor
