/- What slices.Equal returns over flows, slices.EqualFunc over nodes, and model.Same. Conditions: lengths are lengths. -/
import Derived.Test.YtdnelpmolenkoaaDoorMData
namespace Go.Proofs.YtdnelpmolenkoaaDoor
open Go.RowKit Go.Ow

def sameF (a b : Fl) : Bool := decide (a.fr = b.fr ∧ a.to = b.to ∧ a.iff = b.iff ∧ a.els = b.els)
def eqF (m1 m2 : Nat) (f g : Nat → Fl) : Bool := decide (m1 = m2) && allF (fun k => sameF (f k) (g k)) 0 m1

set_option maxHeartbeats 4000000 in
theorem equal_fl (o1 o2 : Option Addr) (m1 m2 c1 c2 : Nat) (f g : Nat → Fl) (w : World) (h1 : FlA w o1 m1 f) (h2 : FlA w o2 m2 g) (hm : m1 ≤ 9223372036854775807) (hm2 : m2 ≤ 9223372036854775807) :
    Calls Tryd.prog 54 #[.slice o1 m1 c1, .slice o2 m2 c2] w fun e w' => e = .returned (.bool (eqF m1 m2 f g)) ∧ Below w.heap.size w w' := by
  unfold eqF
  by_cases hmm : m1 = m2
  · subst hmm
    rw [decide_eq_true rfl, Bool.true_and]
    have H1 := Lib.hid h1
    have H2 := Lib.hid h2
    clear h1 h2
    obtain ⟨r, hr⟩ : ∃ r, allF (fun k => sameF (f k) (g k)) 0 m1 = r := ⟨_, rfl⟩
    rw [hr]
    have HR := Lib.hid hr
    clear hr
    go_enter Tryd.func54, Tryd.ntmps54
    go_wp2
    go_loopw [13] (fun i wr => ∃ k : Nat, k ≤ m1 ∧ i = .int .i64 k ∧ Hid (allF (fun k => sameF (f k) (g k)) k (m1 - k) = r) ∧ Below w.heap.size w wr) (fun i _ => m1 - (intOf i).toNat)
    case atStart => exact ⟨0, Nat.zero_le _, rfl, HR, Below.refl _ _⟩
    case round =>
      obtain ⟨k, hk, rfl, HK, hB⟩ := hrel
      have HB := Lib.hid hB
      clear hB
      by_cases hlt : k < m1
      · obtain ⟨b, off, rfl, hb, c0, c1, c2, c3⟩ := (H1.out.below HB.out) k hlt
        obtain ⟨b', off', rfl, hb', d0, d1, d2, d3⟩ := (H2.out.below HB.out) k hlt
        have E := Lib.hid (allF_at (fun k => sameF (f k) (g k)) k m1 hlt)
        have i1 : (k : Int) < (m1 : Int) := by omega
        have i2 : (0 : Int) ≤ (k : Int) := by omega
        obtain ⟨u, hu⟩ : ∃ u, f k = u := ⟨_, rfl⟩
        obtain ⟨v, hv⟩ : ∃ u, g k = u := ⟨_, rfl⟩
        rw [hu] at c0 c1 c2 c3 E
        rw [hv] at d0 d1 d2 d3 E
        clear hu hv
        obtain ⟨ka, na, a, ta⟩ := u
        obtain ⟨ka', na', a', ta'⟩ := v
        simp only at c0 c1 c2 c3 d0 d1 d2 d3
        by_cases q : sameF ⟨ka, na, a, ta⟩ ⟨ka', na', a', ta'⟩ = true
        · have HE : Hid (allF (fun k => sameF (f k) (g k)) (k + 1) (m1 - (k + 1)) = r) := Lib.hid (by have := HK.out; rw [E.out, q, Bool.true_and] at this; exact this)
          obtain ⟨rfl, rfl, rfl, rfl⟩ : ka = ka' ∧ na = na' ∧ a = a' ∧ ta = ta' := of_decide_eq_true q
          clear q E
          go_wp2
          go_quiet (fail)
          go_wp2
          go_roundw
          case rel => exact ⟨k + 1, by omega, by go_num, HE, HB.out.trans (Below.drewN _ _)⟩
          case measure => simp [intOf]; omega
        · have HE : Hid (false = r) := Lib.hid (by have := HK.out; rw [E.out, eq_false_of_ne_true q, Bool.false_and] at this; exact this)
          have q' : ka ≠ ka' ∨ (ka = ka' ∧ na ≠ na') ∨ (ka = ka' ∧ na = na' ∧ a ≠ a') ∨ (ka = ka' ∧ na = na' ∧ a = a' ∧ ta ≠ ta') := by
            have q2 : ¬ (ka = ka' ∧ na = na' ∧ a = a' ∧ ta = ta') := fun h => q (decide_eq_true h)
            by_cases e1 : ka = ka'
            · by_cases e2 : na = na'
              · by_cases e3 : a = a'
                · exact .inr (.inr (.inr ⟨e1, e2, e3, fun e4 => q2 ⟨e1, e2, e3, e4⟩⟩))
                · exact .inr (.inr (.inl ⟨e1, e2, e3⟩))
              · exact .inr (.inl ⟨e1, e2⟩)
            · exact .inl e1
          clear q E
          rcases q' with e | ⟨rfl, e⟩ | ⟨rfl, rfl, e⟩ | ⟨rfl, rfl, rfl, e⟩
          · have n2 : (ka == ka') = false := by simpa using e
            go_wp2
            go_quiet (fail)
            go_wp2
            go_ret
            exact ⟨ret_bool HE.out, HB.out.trans (Below.drewN _ _)⟩
          · have n2 : (na == na') = false := by simpa using e
            go_wp2
            go_quiet (fail)
            go_wp2
            go_ret
            exact ⟨ret_bool HE.out, HB.out.trans (Below.drewN _ _)⟩
          · have n1 := toList_ne e
            have n2 := toList_beq e
            clear e
            go_wp2
            go_quiet (fail)
            go_wp2
            go_ret
            exact ⟨ret_bool HE.out, HB.out.trans (Below.drewN _ _)⟩
          · have n2 : (ta == ta') = false := by simpa using e
            go_wp2
            go_quiet (fail)
            go_wp2
            go_ret
            exact ⟨ret_bool HE.out, HB.out.trans (Below.drewN _ _)⟩
      · obtain rfl : k = m1 := by omega
        have HE : Hid (true = r) := Lib.hid (by have := HK.out; rw [allF_end] at this; exact this)
        go_wp2
        go_ret
        exact ⟨ret_bool HE.out, HB.out⟩
  · rw [decide_eq_false hmm, Bool.false_and]
    have n1 : ((m1 : Int) != (m2 : Int)) = true := by simp; omega
    have n2 : ((m1 : Int) == (m2 : Int)) = false := by simp; omega
    clear h1 h2
    go_enter Tryd.func54, Tryd.ntmps54
    go_wp2
    go_ret
    exact ⟨rfl, Below.refl _ _⟩

def sameK (x y : Nod) : Bool := sameD x.d y.d x.f y.f x.g y.g x.m y.m x.n y.n
def eqN (m1 m2 : Nat) (f g : Nat → Nod) : Bool := decide (m1 = m2) && allF (fun k => sameK (f k) (g k)) 0 m1
theorem same_nod (x y : Nod) (w : World) (hx : x.at w) (hy : y.at w) (fx : x.fit) (fy : y.fit) :
    Calls Tryd.prog 46 #[.agg x.cs, .agg y.cs] w fun r w' => r = .returned (.bool (sameK x y)) ∧ Below w.heap.size w w' :=
  same_any x.d y.d x.o y.o x.p y.p x.m x.c y.m y.c x.n x.q y.n y.q x.f y.f x.g y.g w hx.1 hy.1 hx.2 hy.2 fx.2.2.2.1 fy.2.2.2.1 fx.2.2.2.2.1 fy.2.2.2.2.1

set_option maxRecDepth 100000 in
set_option maxHeartbeats 8000000 in
theorem equal_nd (o1 o2 : Option Addr) (m1 m2 c1 c2 : Nat) (f g : Nat → Nod) (w : World) (h1 : NdA w o1 m1 f) (h2 : NdA w o2 m2 g) (hf : ∀ k, (f k).fit) (hg : ∀ k, (g k).fit) (hm : m1 ≤ 9223372036854775807) (hm2 : m2 ≤ 9223372036854775807) :
    Calls Tryd.prog 53 #[.slice o1 m1 c1, .slice o2 m2 c2, .func (.func 46) #[] #[]] w fun e w' => e = .returned (.bool (eqN m1 m2 f g)) ∧ Below w.heap.size w w' := by
  unfold eqN
  by_cases hmm : m1 = m2
  · subst hmm
    rw [decide_eq_true rfl, Bool.true_and]
    have H1 := Lib.hid h1
    have H2 := Lib.hid h2
    have HF := Lib.hid hf
    have HG := Lib.hid hg
    clear h1 h2 hf hg
    obtain ⟨r, hr⟩ : ∃ r, allF (fun k => sameK (f k) (g k)) 0 m1 = r := ⟨_, rfl⟩
    rw [hr]
    have HR := Lib.hid hr
    clear hr
    go_enter Tryd.func53, Tryd.ntmps53
    go_wp2
    go_loopw [17] (fun i wr => ∃ k : Nat, k ≤ m1 ∧ i = .int .i64 k ∧ Hid (allF (fun k => sameK (f k) (g k)) k (m1 - k) = r) ∧ Below w.heap.size w wr) (fun i _ => m1 - (intOf i).toNat)
    case atStart => exact ⟨0, Nat.zero_le _, rfl, HR, Below.refl _ _⟩
    case round =>
      obtain ⟨k, hk, rfl, HK, hB⟩ := hrel
      have HB := Lib.hid hB
      clear hB
      by_cases hlt : k < m1
      · obtain ⟨b, off, rfl, hb, ha, c0, c1, c2, c3, c4, c5, c6, c7, c8, c9, c10⟩ := (H1.out.below HB.out) k hlt
        obtain ⟨b', off', rfl, hb', ha', d0, d1, d2, d3, d4, d5, d6, d7, d8, d9, d10⟩ := (H2.out.below HB.out) k hlt
        have E := Lib.hid (allF_at (fun k => sameK (f k) (g k)) k m1 hlt)
        have i1 : (k : Int) < (m1 : Int) := by omega
        have i2 : (0 : Int) ≤ (k : Int) := by omega
        have B2 : Hid (Below wr.heap.size wr ((wr.alloc (.cells (f k).cs 25)).alloc (.cells (g k).cs 25))) := Lib.hid (((Below.refl _ _).alloc (Nat.le_refl _) _).alloc (by simp) _)
        have SM := same_nod (f k) (g k) ((wr.alloc (.cells (f k).cs 25)).alloc (.cells (g k).cs 25)) (ha.below B2.out) (ha'.below B2.out) (HF.out k) (HG.out k)
        clear ha ha'
        cases q : sameK (f k) (g k)
        · have HE : Hid (false = r) := Lib.hid (by have := HK.out; rw [E.out, q, Bool.false_and] at this; exact this)
          rw [q] at SM
          have SM := Lib.hid SM
          clear q E
          go_wp2_with (go_at_call 46; refine SM.out.mono ?_; rintro e w3 ⟨rfl, hb3⟩)
          go_ret
          exact ⟨ret_bool HE.out, below_step HB.out (below_step B2.out hb3)⟩
        · have HE : Hid (allF (fun k => sameK (f k) (g k)) (k + 1) (m1 - (k + 1)) = r) := Lib.hid (by have := HK.out; rw [E.out, q, Bool.true_and] at this; exact this)
          rw [q] at SM
          have SM := Lib.hid SM
          clear q E
          go_wp2_with (go_at_call 46; refine SM.out.mono ?_; rintro e w3 ⟨rfl, hb3⟩; have HB3 := Lib.hid (below_step HB.out (below_step B2.out hb3)); clear hb3)
          go_roundw
          case rel => exact ⟨k + 1, by omega, by go_num, HE, HB3.out⟩
          case measure => simp [intOf]; omega
      · obtain rfl : k = m1 := by omega
        have HE : Hid (true = r) := Lib.hid (by have := HK.out; rw [allF_end] at this; exact this)
        go_wp2
        go_ret
        exact ⟨ret_bool HE.out, HB.out⟩
  · rw [decide_eq_false hmm, Bool.false_and]
    have n1 : ((m1 : Int) != (m2 : Int)) = true := by simp; omega
    have n2 : ((m1 : Int) == (m2 : Int)) = false := by simp; omega
    clear h1 h2
    go_enter Tryd.func53, Tryd.ntmps53
    go_wp2
    go_ret
    exact ⟨rfl, Below.refl _ _⟩

def sameP (x y : Pr) : Bool := decide (x.name = y.name) && (eqV x.vm y.vm x.vf y.vf && (eqN x.nn y.nn x.nf y.nf && eqF x.fn y.fn x.ff y.ff))
set_option maxRecDepth 100000 in
set_option maxHeartbeats 8000000 in
theorem same_proc (x y : Pr) (w : World) (hx : x.at w) (hy : y.at w) (fx : x.fit) (fy : y.fit) :
    Calls Tryd.prog 18 #[.agg x.cs, .agg y.cs] w fun r w' => r = .returned (.bool (sameP x y)) ∧ Below w.heap.size w w' := by
  have HB0 := Lib.hid (((Below.refl w.heap.size w).alloc (Nat.le_refl _) (.cells x.cs 30)).alloc (by simp) (.cells y.cs 30))
  obtain ⟨W0, hW0⟩ : ∃ W, (w.alloc (.cells x.cs 30)).alloc (.cells y.cs 30) = W := ⟨_, rfl⟩
  have BX : Hid (∀ W : World, Below W0.heap.size W0 W → W.cell? ⟨w.heap.size, 0, none⟩ = some (.string x.name) ∧ W.cell? ⟨w.heap.size, 1, none⟩ = some (.slice x.vo x.vm x.vc) ∧ W.cell? ⟨w.heap.size, 2, none⟩ = some (.slice x.no x.nn x.nc) ∧ W.cell? ⟨w.heap.size, 3, none⟩ = some (.slice x.fo x.fn x.fc) ∧ W.cell? ⟨w.heap.size + 1, 0, none⟩ = some (.string y.name) ∧ W.cell? ⟨w.heap.size + 1, 1, none⟩ = some (.slice y.vo y.vm y.vc) ∧ W.cell? ⟨w.heap.size + 1, 2, none⟩ = some (.slice y.no y.nn y.nc) ∧ W.cell? ⟨w.heap.size + 1, 3, none⟩ = some (.slice y.fo y.fn y.fc)) := Lib.hid (fun W hb => by
    have hl : w.heap.size + 1 < W0.heap.size := by rw [← hW0]; simp
    simp only [fun o => hb.cell (p := ⟨w.heap.size, o, none⟩) (Nat.lt_of_succ_lt hl), fun o => hb.cell (p := ⟨w.heap.size + 1, o, none⟩) hl]
    rw [← hW0]
    simp)
  have BW : Hid (∀ W : World, Below W0.heap.size W0 W → Below w.heap.size w W) := Lib.hid (fun W hb => below_step (by rw [← hW0]; exact HB0.out) hb)
  have EV := Lib.hid (fun (W : World) (hb : Below W0.heap.size W0 W) => equal_var x.vo y.vo x.vm y.vm x.vc y.vc x.vf y.vf W (hx.v.below (BW.out _ hb)) (hy.v.below (BW.out _ hb)) fx.2.2.2.2.1 fy.2.2.2.2.1)
  have EN := Lib.hid (fun (W : World) (hb : Below W0.heap.size W0 W) => equal_nd x.no y.no x.nn y.nn x.nc y.nc x.nf y.nf W (hx.n.below (BW.out _ hb)) (hy.n.below (BW.out _ hb)) fx.2.2.1 fy.2.2.1 fx.2.2.2.2.2.1 fy.2.2.2.2.2.1)
  have EF := Lib.hid (fun (W : World) (hb : Below W0.heap.size W0 W) => equal_fl x.fo y.fo x.fn y.fn x.fc y.fc x.ff y.ff W (hx.f.below (BW.out _ hb)) (hy.f.below (BW.out _ hb)) fx.2.2.2.2.2.2.1 fy.2.2.2.2.2.2.1)
  have HW := Lib.hid hW0
  have HBR := Lib.hid (Below.refl W0.heap.size W0)
  clear hx hy fx fy hW0
  unfold sameP
  obtain ⟨v, hv⟩ : ∃ v, eqV x.vm y.vm x.vf y.vf = v := ⟨_, rfl⟩
  obtain ⟨nn, hn⟩ : ∃ v, eqN x.nn y.nn x.nf y.nf = v := ⟨_, rfl⟩
  obtain ⟨ff, hf⟩ : ∃ v, eqF x.fn y.fn x.ff y.ff = v := ⟨_, rfl⟩
  rw [hv] at EV ⊢
  rw [hn] at EN ⊢
  rw [hf] at EF ⊢
  clear hv hn hf
  by_cases e : x.name = y.name
  · rw [decide_eq_true e, Bool.true_and]
    go_enter Tryd.func18, Tryd.ntmps18
    go_upto_region 1 with fail
    rw [HW.out]
    obtain ⟨q0, q1, q2, q3, q4, q5, q6, q7⟩ := BX.out _ HBR.out
    rw [e] at q0
    cases v
    · go_wp2_with (go_at_call 52; refine (EV.out _ HBR.out).mono ?_; rintro e w1 ⟨rfl, hb1⟩)
      go_ret
      exact ⟨rfl, BW.out _ hb1⟩
    · cases nn
      · go_wp2_with (first | (go_at_call 52; refine (EV.out _ HBR.out).mono ?_; rintro e w1 ⟨rfl, hb1⟩; have HB1 := Lib.hid hb1; obtain ⟨p0, p1, p2, p3, p4, p5, p6, p7⟩ := BX.out _ HB1.out; clear hb1) | (go_at_call 53; refine (EN.out _ HB1.out).mono ?_; rintro e w2 ⟨rfl, hb2⟩; have HB2 := Lib.hid (below_step HB1.out hb2); clear hb2))
        go_ret
        exact ⟨rfl, BW.out _ HB2.out⟩
      · cases ff
        all_goals
          go_wp2_with (first | (go_at_call 52; refine (EV.out _ HBR.out).mono ?_; rintro e w1 ⟨rfl, hb1⟩; have HB1 := Lib.hid hb1; obtain ⟨p0, p1, p2, p3, p4, p5, p6, p7⟩ := BX.out _ HB1.out; clear hb1) | (go_at_call 53; refine (EN.out _ HB1.out).mono ?_; rintro e w2 ⟨rfl, hb2⟩; have HB2 := Lib.hid (below_step HB1.out hb2); obtain ⟨s0, s1, s2, s3, s4, s5, s6, s7⟩ := BX.out _ HB2.out; clear hb2) | (go_at_call 54; refine (EF.out _ HB2.out).mono ?_; rintro e w3 ⟨rfl, hb3⟩; have HB3 := Lib.hid (below_step HB2.out hb3); clear hb3))
          go_ret
          exact ⟨rfl, BW.out _ HB3.out⟩
  · rw [decide_eq_false e, Bool.false_and]
    have n1 := toList_ne e
    have n2 := toList_beq e
    clear e
    go_enter Tryd.func18, Tryd.ntmps18
    go_upto_region 1 with fail
    rw [HW.out]
    obtain ⟨q0, q1, q2, q3, q4, q5, q6, q7⟩ := BX.out _ HBR.out
    go_wp2_with fail
    go_ret
    exact ⟨rfl, BW.out _ HBR.out⟩
end Go.Proofs.YtdnelpmolenkoaaDoor
