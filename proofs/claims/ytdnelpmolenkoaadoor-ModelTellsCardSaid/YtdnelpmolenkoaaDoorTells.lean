/- callboardlaw14.ModelTells returns true: the walk. Conditions: the tables as laid; lengths are lengths. -/
import Derived.Test.YtdnelpmolenkoaaDoorTellsA
import Derived.Test.YtdnelpmolenkoaaDoorTRef9
import Derived.Test.YtdnelpmolenkoaaDoorTRefC
import Derived.Test.YtdnelpmolenkoaaDoorTRef8
import Derived.Test.YtdnelpmolenkoaaDoorMProc
import Derived.Test.YtdnelpmolenkoaaDoorMawake
import Derived.Test.YtdnelpmolenkoaaDoorOrd
import Derived.Deep.DeepCutAuto
namespace Go.Proofs.YtdnelpmolenkoaaDoor
open Go.RowKit Go.Ow Go.Inv2

set_option maxRecDepth 100000 in
set_option maxHeartbeats 32000000 in
theorem tells_run {A : Nat → Nat × Nat} (x y : Pr) (n : Nod) (f : Fl) (s : ByteArray) (w : World) (hG : Gl A w) (hx : x.at w) (hy : y.at w) (hn : n.at w) (fx : x.fit) (fy : y.fit) (fn : n.fit) (ff : f.fit) (fs : s.size ≤ 9223372036854775807) :
    Calls Tryd.prog 8 #[.agg x.cs, .agg y.cs, .agg n.cs, .agg (flowC f), .string s] w fun r w' => r = .returned (.bool true) ∧ Below w.heap.size w w' := by
  obtain ⟨w1, hw1⟩ : ∃ W, (((w.alloc (.cells x.cs 30)).alloc (.cells y.cs 30)).alloc (.cells n.cs 25)).alloc (.cells (flowC f) 48) = W := ⟨_, rfl⟩
  have hb1 : Below w.heap.size w w1 := by rw [← hw1]; exact ((((Below.refl _ _).alloc (Nat.le_refl _) _).alloc (by simp) _).alloc (by simp; omega) _).alloc (by simp; omega) _
  have b0 : w1.heap[w.heap.size]? = some (.cells x.cs 30 (0, 0)) := by
    rw [← hw1, heap_alloc_old (r := w.heap.size) _ _ (by simp <;> omega), heap_alloc_old (r := w.heap.size) _ _ (by simp <;> omega), heap_alloc_old (r := w.heap.size) _ _ (by simp)]
    exact heap_alloc_new _ _
  have b1 : w1.heap[w.heap.size + 1]? = some (.cells y.cs 30 (0, 0)) := by
    rw [← hw1, heap_alloc_old (r := w.heap.size + 1) _ _ (by simp <;> omega), heap_alloc_old (r := w.heap.size + 1) _ _ (by simp)]
    simpa using heap_alloc_new (w.alloc (.cells x.cs 30)) (.cells y.cs 30)
  have b2 : w1.heap[w.heap.size + 2]? = some (.cells n.cs 25 (0, 0)) := by
    rw [← hw1, heap_alloc_old (r := w.heap.size + 2) _ _ (by simp)]
    simpa using heap_alloc_new ((w.alloc (.cells x.cs 30)).alloc (.cells y.cs 30)) (.cells n.cs 25)
  have b3 : w1.heap[w.heap.size + 3]? = some (.cells (flowC f) 48 (0, 0)) := by
    rw [← hw1]
    simpa using heap_alloc_new (((w.alloc (.cells x.cs 30)).alloc (.cells y.cs 30)).alloc (.cells n.cs 25)) (.cells (flowC f) 48)
  have BX : Hid (∀ W : World, Below w1.heap.size w1 W → (W.cell? ⟨w.heap.size, 0, none⟩ = some (.string x.name) ∧ W.cell? ⟨w.heap.size, 1, none⟩ = some (.slice x.vo x.vm x.vc) ∧ W.cell? ⟨w.heap.size, 2, none⟩ = some (.slice x.no x.nn x.nc) ∧ W.cell? ⟨w.heap.size, 3, none⟩ = some (.slice x.fo x.fn x.fc)) ∧ (W.cell? ⟨w.heap.size + 1, 0, none⟩ = some (.string y.name) ∧ W.cell? ⟨w.heap.size + 1, 1, none⟩ = some (.slice y.vo y.vm y.vc) ∧ W.cell? ⟨w.heap.size + 1, 2, none⟩ = some (.slice y.no y.nn y.nc) ∧ W.cell? ⟨w.heap.size + 1, 3, none⟩ = some (.slice y.fo y.fn y.fc)) ∧ (W.cell? ⟨w.heap.size + 2, 0, none⟩ = some (.string n.d.name) ∧ W.cell? ⟨w.heap.size + 2, 1, none⟩ = some (.int .u8 n.d.kind) ∧ W.cell? ⟨w.heap.size + 2, 2, none⟩ = some (.int .i64 n.d.inn) ∧ W.cell? ⟨w.heap.size + 2, 3, none⟩ = some (.int .i64 n.d.on) ∧ W.cell? ⟨w.heap.size + 2, 4, none⟩ = some (.int .u8 n.d.event) ∧ W.cell? ⟨w.heap.size + 2, 5, none⟩ = some (.string n.d.key) ∧ W.cell? ⟨w.heap.size + 2, 6, none⟩ = some (.string n.d.text) ∧ W.cell? ⟨w.heap.size + 2, 7, none⟩ = some (.string n.d.set) ∧ W.cell? ⟨w.heap.size + 2, 8, none⟩ = some (.bool n.d.breaks) ∧ W.cell? ⟨w.heap.size + 2, 9, none⟩ = some (.slice n.o n.m n.c) ∧ W.cell? ⟨w.heap.size + 2, 10, none⟩ = some (.slice n.p n.n n.q)) ∧ (W.cell? ⟨w.heap.size + 3, 0, none⟩ = some (.int .i64 f.fr) ∧ W.cell? ⟨w.heap.size + 3, 1, none⟩ = some (.int .i64 f.to) ∧ W.cell? ⟨w.heap.size + 3, 2, none⟩ = some (.string f.iff) ∧ W.cell? ⟨w.heap.size + 3, 3, none⟩ = some (.bool f.els))) := Lib.hid (fun W hb => by
    have g0 := (hb.block _ (Array.getElem?_eq_some_iff.1 b0).1).trans b0
    have g1 := (hb.block _ (Array.getElem?_eq_some_iff.1 b1).1).trans b1
    have g2 := (hb.block _ (Array.getElem?_eq_some_iff.1 b2).1).trans b2
    have g3 := (hb.block _ (Array.getElem?_eq_some_iff.1 b3).1).trans b3
    refine ⟨⟨?_, ?_, ?_, ?_⟩, ⟨?_, ?_, ?_, ?_⟩, ⟨?_, ?_, ?_, ?_, ?_, ?_, ?_, ?_, ?_, ?_, ?_⟩, ?_, ?_, ?_, ?_⟩
    iterate 4 (rw [cell_in g0]; rfl)
    iterate 4 (rw [cell_in g1]; rfl)
    iterate 11 (rw [cell_in g2]; rfl)
    iterate 4 (rw [cell_in g3]; rfl))
  have HW := Lib.hid hw1
  have HB1 := Lib.hid hb1
  clear hw1 hb1 b0 b1 b2 b3
  obtain ⟨ex, hex⟩ : ∃ e, x.e = e := ⟨_, rfl⟩
  obtain ⟨en, hen⟩ : ∃ e, n.e = e := ⟨_, rfl⟩
  obtain ⟨ef, hef⟩ : ∃ e, flowE f = e := ⟨_, rfl⟩
  obtain ⟨ev, hev⟩ : ∃ e, varsE x.vm x.vf = e := ⟨_, rfl⟩
  obtain ⟨bs, hbs⟩ : ∃ e, isName s = e := ⟨_, rfl⟩
  obtain ⟨bp, hbp⟩ : ∃ e, sameP x y = e := ⟨_, rfl⟩
  have AW := Lib.hid (fun (W : World) (hb : Below w1.heap.size w1 W) => mawake_true W (hG.below (below_step HB1.out hb)))
  have LX := Lib.hid (fun (W : World) (hb : Below w1.heap.size w1 W) => large_any x W (hx.below (below_step HB1.out hb)) fx)
  have LY := Lib.hid (fun (W : World) (hb : Below w1.heap.size w1 W) => large_any y W (hy.below (below_step HB1.out hb)) fy)
  have LO := Lib.hid (fun (W : World) (hb : Below w1.heap.size w1 W) => large_one n f W (hn.below (below_step HB1.out hb)) fn ff)
  have P1 : Hid (∀ W, Below w1.heap.size w1 W → Calls Tryd.prog 16 #[.agg x.cs] W fun r W' => r = .returned (.int .i64 ex) ∧ Below w1.heap.size w1 W') := Lib.hid (fun W hW => by
    have h := proc_any x W (hG.below (below_step HB1.out hW)) (hx.below (below_step HB1.out hW)) fx
    rw [hex] at h
    refine h.mono ?_
    rintro e W' ⟨rfl, hb⟩
    exact ⟨rfl, below_step hW hb⟩)
  have P2 : Hid (∀ W, Below w1.heap.size w1 W → Calls Tryd.prog 20 #[.agg x.cs] W fun r W' => r = .returned (.int .i64 ex) ∧ Below w1.heap.size w1 W') := Lib.hid (fun W hW => by
    have h := rproc_any x W (hx.below (below_step HB1.out hW)) fx
    rw [hex] at h
    refine h.mono ?_
    rintro e W' ⟨rfl, hb⟩
    exact ⟨rfl, below_step hW hb⟩)
  have N1 : Hid (∀ W, Below w1.heap.size w1 W → Calls Tryd.prog 12 #[.agg n.cs] W fun r W' => r = .returned (.int .i64 en) ∧ Below w1.heap.size w1 W') := Lib.hid (fun W hW => by
    have h := node_all n W (hG.below (below_step HB1.out hW)) (hn.below (below_step HB1.out hW)) fn
    rw [hen] at h
    refine h.mono ?_
    rintro e W' ⟨rfl, hb⟩
    exact ⟨rfl, below_step hW hb⟩)
  have N2 : Hid (∀ W, Below w1.heap.size w1 W → Calls Tryd.prog 21 #[.agg n.cs] W fun r W' => r = .returned (.int .i64 en) ∧ Below w1.heap.size w1 W') := Lib.hid (fun W hW => by
    have h := rnode_all n W (hn.below (below_step HB1.out hW)) fn
    rw [hen] at h
    refine h.mono ?_
    rintro e W' ⟨rfl, hb⟩
    exact ⟨rfl, below_step hW hb⟩)
  have F1 : Hid (∀ W, Below w1.heap.size w1 W → Calls Tryd.prog 17 #[.agg (flowC f)] W fun r W' => r = .returned (.int .i64 ef) ∧ Below w1.heap.size w1 W') := Lib.hid (fun W hW => by
    have h := flow_any f W ff
    rw [hef] at h
    refine h.mono ?_
    rintro e W' ⟨rfl, hb⟩
    exact ⟨rfl, below_step hW hb⟩)
  have F2 : Hid (∀ W, Below w1.heap.size w1 W → Calls Tryd.prog 22 #[.agg (flowC f)] W fun r W' => r = .returned (.int .i64 ef) ∧ Below w1.heap.size w1 W') := Lib.hid (fun W hW => by
    have h := rflow_any f W ff
    rw [hef] at h
    refine h.mono ?_
    rintro e W' ⟨rfl, hb⟩
    exact ⟨rfl, below_step hW hb⟩)
  have V1 : Hid (∀ W, Below w1.heap.size w1 W → Calls Tryd.prog 15 #[.slice x.vo x.vm x.vc] W fun r W' => r = .returned (.int .i64 ev) ∧ Below w1.heap.size w1 W') := Lib.hid (fun W hW => by
    have h := vars_any x.vo x.vm x.vc x.vf W (hG.below (below_step HB1.out hW)) (hx.v.below (below_step HB1.out hW)) fx.2.1 fx.2.2.2.2.1 fx.2.2.2.2.2.2.2.1
    rw [hev] at h
    refine h.mono ?_
    rintro e W' ⟨rfl, hb⟩
    exact ⟨rfl, below_step hW hb⟩)
  have V2 : Hid (∀ W, Below w1.heap.size w1 W → Calls Tryd.prog 23 #[.slice x.vo x.vm x.vc] W fun r W' => r = .returned (.int .i64 ev) ∧ Below w1.heap.size w1 W') := Lib.hid (fun W hW => by
    have h := rvars_err x.vo x.vm x.vc x.vf W (hx.v.below (below_step HB1.out hW)) fx.2.1 fx.2.2.2.2.1
    rw [hev] at h
    refine h.mono ?_
    rintro e W' ⟨rfl, hb⟩
    exact ⟨rfl, below_step hW hb⟩)
  have S1 : Hid (∀ W, Below w1.heap.size w1 W → Calls Tryd.prog 13 #[.string s] W fun r W' => r = .returned (.bool bs) ∧ Below w1.heap.size w1 W') := Lib.hid (fun W hW => by
    have h := name_any s W (hG.below (below_step HB1.out hW)) fs
    rw [hbs] at h
    refine h.mono ?_
    rintro e W' ⟨rfl, hb⟩
    exact ⟨rfl, below_step hW hb⟩)
  have S2 : Hid (∀ W, Below w1.heap.size w1 W → Calls Tryd.prog 24 #[.string s] W fun r W' => r = .returned (.bool bs) ∧ Below w1.heap.size w1 W') := Lib.hid (fun W hW => by
    have h := rname_any s W fs
    rw [hbs] at h
    refine h.mono ?_
    rintro e W' ⟨rfl, hb⟩
    exact ⟨rfl, by rw [← hb]; exact hW⟩)
  have M1 : Hid (∀ W, Below w1.heap.size w1 W → Calls Tryd.prog 18 #[.agg x.cs, .agg y.cs] W fun r W' => r = .returned (.bool bp) ∧ Below w1.heap.size w1 W') := Lib.hid (fun W hW => by
    have h := same_proc x y W (hx.below (below_step HB1.out hW)) (hy.below (below_step HB1.out hW)) fx fy
    rw [hbp] at h
    refine h.mono ?_
    rintro e W' ⟨rfl, hb⟩
    exact ⟨rfl, below_step hW hb⟩)
  have M2 : Hid (∀ W, Below w1.heap.size w1 W → Calls Tryd.prog 25 #[.agg x.cs, .agg y.cs] W fun r W' => r = .returned (.bool bp) ∧ Below w1.heap.size w1 W') := Lib.hid (fun W hW => by
    have h := rsame_any x y W (hx.below (below_step HB1.out hW)) (hy.below (below_step HB1.out hW)) fx fy
    rw [hbp] at h
    refine h.mono ?_
    rintro e W' ⟨rfl, hb⟩
    exact ⟨rfl, below_step hW hb⟩)
  have RC := Lib.hid (fun (W : World) (hb : Below w1.heap.size w1 W) (hs : x.small) => rcopy_any x W (hx.below (below_step HB1.out hb)) fx hs.2.1 hs.2.2.1 hs.2.2.2.1 hs.2.2.2.2)
  have CC := Lib.hid (fun (W : World) (hb : Below w1.heap.size w1 W) (hs : x.small) => copy_any x W (hx.below (below_step HB1.out hb)) fx hs.2.1 hs.2.2.1 hs.2.2.2.1 hs.2.2.2.2)
  have CS := Lib.hid (fun (z : Pr) (W : World) (hz : z.at W) (fz : z.fit) (hl : z.like x) (hb : Below w1.heap.size w1 W) => by have h := rsame_any z x W hz (hx.below (below_step HB1.out hb)) fz fx; rw [sameP_like hl] at h; exact h)
  have SC := Lib.hid (fun (z : Pr) (W : World) (hz : z.at W) (fz : z.fit) (hl : z.like x) (hb : Below w1.heap.size w1 W) => by have h := rsame_any x z W (hx.below (below_step HB1.out hb)) hz fx fz; rw [sameP_comm, sameP_like hl] at h; exact h)
  have EVT := Lib.hid (fun (k e : Nat) (hk : k < 256) (W : World) (hb : Below w1.heap.size w1 W) => event_any k e W (hG.below (below_step HB1.out hb)) hk)
  have FX := Lib.hid fx
  clear hG hx hy hn fx fy fn ff fs hex hen hef hev hbs hbp
  go_enter Tryd.func8, Tryd.ntmps8
  go_upto_region 1 with fail
  rw [HW.out]
  have HBR := Lib.hid (Below.refl w1.heap.size w1)
  obtain ⟨⟨a0, a1, a2, a3⟩, ⟨b0, b1, b2, b3⟩, ⟨c0, c1, c2, c3, c4, c5, c6, c7, c8, c9, c10⟩, ⟨d0, d1, d2, d3⟩⟩ := BX.out _ HBR.out
  go_wp2_with fail
  refine (LX.out _ HBR.out).mono ?_
  rintro e w2 ⟨bx, rfl, hsx, hb2⟩
  have HB2 := Lib.hid hb2
  clear a0 a1 a2 a3 b0 b1 b2 b3 c0 c1 c2 c3 c4 c5 c6 c7 c8 c9 c10 d0 d1 d2 d3 hb2
  obtain ⟨⟨a0, a1, a2, a3⟩, ⟨b0, b1, b2, b3⟩, ⟨c0, c1, c2, c3, c4, c5, c6, c7, c8, c9, c10⟩, ⟨d0, d1, d2, d3⟩⟩ := BX.out _ HB2.out
  cases bx
  case true =>
    clear hsx
    go_wp2_with (go_at_call 10; refine (AW.out _ HB2.out).mono ?_; rintro e w3 ⟨rfl, hb3⟩)
    go_ret
    exact ⟨rfl, below_step (below_step HB1.out HB2.out) hb3⟩
  have HSX : Hid x.small := Lib.hid ⟨(hsx rfl).2.2.2.1, (hsx rfl).1, (hsx rfl).2.1, (hsx rfl).2.2.1, (hsx rfl).2.2.2.2⟩
  clear hsx
  go_wp2_with fail
  refine (LY.out _ HB2.out).mono ?_
  rintro e w3 ⟨bv, rfl, -, hb3⟩
  have HB3 := Lib.hid (below_step HB2.out hb3)
  clear a0 a1 a2 a3 b0 b1 b2 b3 c0 c1 c2 c3 c4 c5 c6 c7 c8 c9 c10 d0 d1 d2 d3 hb3
  obtain ⟨⟨a0, a1, a2, a3⟩, ⟨b0, b1, b2, b3⟩, ⟨c0, c1, c2, c3, c4, c5, c6, c7, c8, c9, c10⟩, ⟨d0, d1, d2, d3⟩⟩ := BX.out _ HB3.out
  cases bv
  case true =>
    go_wp2_with (go_at_call 10; refine (AW.out _ HB3.out).mono ?_; rintro e w4 ⟨rfl, hb4⟩)
    go_ret
    exact ⟨rfl, below_step (below_step HB1.out HB3.out) hb4⟩
  obtain ⟨-, -, -, e0, e1, e2, e3⟩ := BX.out (w3.alloc (.cells #[(.string n.d.name), (.int .u8 n.d.kind), (.int .i64 n.d.inn), (.int .i64 n.d.on), (.int .u8 n.d.event), (.string n.d.key), (.string n.d.text), (.string n.d.set), (.bool n.d.breaks), (.slice n.o n.m n.c), (.slice n.p n.n n.q)] 25)) (HB3.out.alloc HB3.out.size _)
  go_wp2_with fail
  refine (LO.out _ HB3.out).mono ?_
  rintro e w4 ⟨bo, rfl, hb4⟩
  have HB4 := Lib.hid (below_step HB3.out hb4)
  clear a0 a1 a2 a3 b0 b1 b2 b3 c0 c1 c2 c3 c4 c5 c6 c7 c8 c9 c10 d0 d1 d2 d3 e0 e1 e2 e3 hb4
  cases bo
  case true =>
    go_wp2_with (go_at_call 10; refine (AW.out _ HB4.out).mono ?_; rintro e w5 ⟨rfl, hb5⟩)
    go_ret
    exact ⟨rfl, below_step (below_step HB1.out HB4.out) hb5⟩
  by_cases hs : 100 < s.size
  case pos =>
    have hs1 : (100 : Int) < (s.size : Int) := by omega
    go_wp2_with (go_at_call 10; refine (AW.out _ HB4.out).mono ?_; rintro e w5 ⟨rfl, hb5⟩)
    go_ret
    exact ⟨rfl, below_step (below_step HB1.out HB4.out) hb5⟩
  have hs1 : ¬ (100 : Int) < (s.size : Int) := by omega
  go_upto_region 3 with fail
  clear hs hs1
  go_cut [83] (fun s W => s = .bool false ∧ Below w1.heap.size w1 W)
  case first => as_aux_lemma =>
    refine wp_region_S (fun W => Below w1.heap.size w1 W) (by kernel_rfl) HB4.out.drew ?_
    refine anyS_take (i := 0) (oi := _) (d := (some 40)) (v := ?_) rfl rfl (by kernel_rfl) (by kernel_rfl) (by kernel_rfl) (fun _ _ _ h => h) (YS.pure (by kernel_rfl) (fun W hW => ?_)) ?_
    rotate_left
    · obtain ⟨⟨a0, a1, a2, a3⟩, ⟨b0, b1, b2, b3⟩, ⟨c0, c1, c2, c3, c4, c5, c6, c7, c8, c9, c10⟩, ⟨d0, d1, d2, d3⟩⟩ := BX.out _ hW
      go_simp
      try with_reducible rfl
    simp only [Act.put, List.setIfInBounds_toArray, List.set_cons_zero, List.set_cons_succ]
    refine anyS_take (i := 1) (oi := _) (d := (some 41)) (v := ?_) rfl rfl (by kernel_rfl) (by kernel_rfl) (by kernel_rfl) (fun _ _ _ h => h) (YS.call (f := ?_) (args := ?_) (by kernel_rfl) (fun W hW => ?_) (fun W hW => ?_)) ?_
    rotate_left 3
    · obtain ⟨⟨a0, a1, a2, a3⟩, ⟨b0, b1, b2, b3⟩, ⟨c0, c1, c2, c3, c4, c5, c6, c7, c8, c9, c10⟩, ⟨d0, d1, d2, d3⟩⟩ := BX.out _ hW
      go_simp
      try (refine And.intro ?_ ?_ <;> with_reducible rfl)
    · exact P1.out _ hW
    simp only [Act.put, List.setIfInBounds_toArray, List.set_cons_zero, List.set_cons_succ]
    refine anyS_take (i := 2) (oi := _) (d := (some 42)) (v := ?_) rfl rfl (by kernel_rfl) (by kernel_rfl) (by kernel_rfl) (fun _ _ _ h => h) (YS.pure (by kernel_rfl) (fun W hW => ?_)) ?_
    rotate_left
    · obtain ⟨⟨a0, a1, a2, a3⟩, ⟨b0, b1, b2, b3⟩, ⟨c0, c1, c2, c3, c4, c5, c6, c7, c8, c9, c10⟩, ⟨d0, d1, d2, d3⟩⟩ := BX.out _ hW
      go_simp
      try with_reducible rfl
    simp only [Act.put, List.setIfInBounds_toArray, List.set_cons_zero, List.set_cons_succ]
    refine anyS_take (i := 3) (oi := _) (d := (some 43)) (v := ?_) rfl rfl (by kernel_rfl) (by kernel_rfl) (by kernel_rfl) (fun _ _ _ h => h) (YS.call (f := ?_) (args := ?_) (by kernel_rfl) (fun W hW => ?_) (fun W hW => ?_)) ?_
    rotate_left 3
    · obtain ⟨⟨a0, a1, a2, a3⟩, ⟨b0, b1, b2, b3⟩, ⟨c0, c1, c2, c3, c4, c5, c6, c7, c8, c9, c10⟩, ⟨d0, d1, d2, d3⟩⟩ := BX.out _ hW
      go_simp
      try (refine And.intro ?_ ?_ <;> with_reducible rfl)
    · exact P2.out _ hW
    simp only [Act.put, List.setIfInBounds_toArray, List.set_cons_zero, List.set_cons_succ]
    refine anyS_take (i := 4) (oi := _) (d := (some 44)) (v := ?_) rfl rfl (by kernel_rfl) (by kernel_rfl) (by kernel_rfl) (fun _ _ _ h => h) (YS.pure (by kernel_rfl) (fun W hW => ?_)) ?_
    rotate_left
    · obtain ⟨⟨a0, a1, a2, a3⟩, ⟨b0, b1, b2, b3⟩, ⟨c0, c1, c2, c3, c4, c5, c6, c7, c8, c9, c10⟩, ⟨d0, d1, d2, d3⟩⟩ := BX.out _ hW
      go_simp
      try with_reducible rfl
    simp only [Act.put, List.setIfInBounds_toArray, List.set_cons_zero, List.set_cons_succ]
    refine anyS_take (i := 5) (oi := _) (d := (some 45)) (v := ?_) rfl rfl (by kernel_rfl) (by kernel_rfl) (by kernel_rfl) (fun _ _ _ h => h) (YS.pure (by kernel_rfl) (fun W hW => ?_)) ?_
    rotate_left
    · obtain ⟨⟨a0, a1, a2, a3⟩, ⟨b0, b1, b2, b3⟩, ⟨c0, c1, c2, c3, c4, c5, c6, c7, c8, c9, c10⟩, ⟨d0, d1, d2, d3⟩⟩ := BX.out _ hW
      go_simp
      try with_reducible rfl
    simp only [Act.put, List.setIfInBounds_toArray, List.set_cons_zero, List.set_cons_succ]
    refine anyS_take (i := 6) (oi := _) (d := (some 46)) (v := ?_) rfl rfl (by kernel_rfl) (by kernel_rfl) (by kernel_rfl) (fun _ _ _ h => h) (YS.pure (by kernel_rfl) (fun W hW => ?_)) ?_
    rotate_left
    · obtain ⟨⟨a0, a1, a2, a3⟩, ⟨b0, b1, b2, b3⟩, ⟨c0, c1, c2, c3, c4, c5, c6, c7, c8, c9, c10⟩, ⟨d0, d1, d2, d3⟩⟩ := BX.out _ hW
      go_simp
      try with_reducible rfl
    simp only [Act.put, List.setIfInBounds_toArray, List.set_cons_zero, List.set_cons_succ]
    refine anyS_take (i := 7) (oi := _) (d := (some 47)) (v := ?_) rfl rfl (by kernel_rfl) (by kernel_rfl) (by kernel_rfl) (fun _ _ _ h => h) (YS.call (f := ?_) (args := ?_) (by kernel_rfl) (fun W hW => ?_) (fun W hW => ?_)) ?_
    rotate_left 3
    · obtain ⟨⟨a0, a1, a2, a3⟩, ⟨b0, b1, b2, b3⟩, ⟨c0, c1, c2, c3, c4, c5, c6, c7, c8, c9, c10⟩, ⟨d0, d1, d2, d3⟩⟩ := BX.out _ hW
      go_simp
      try (refine And.intro ?_ ?_ <;> with_reducible rfl)
    · exact N1.out _ hW
    simp only [Act.put, List.setIfInBounds_toArray, List.set_cons_zero, List.set_cons_succ]
    refine anyS_take (i := 8) (oi := _) (d := (some 48)) (v := ?_) rfl rfl (by kernel_rfl) (by kernel_rfl) (by kernel_rfl) (fun _ _ _ h => h) (YS.pure (by kernel_rfl) (fun W hW => ?_)) ?_
    rotate_left
    · obtain ⟨⟨a0, a1, a2, a3⟩, ⟨b0, b1, b2, b3⟩, ⟨c0, c1, c2, c3, c4, c5, c6, c7, c8, c9, c10⟩, ⟨d0, d1, d2, d3⟩⟩ := BX.out _ hW
      go_simp
      try with_reducible rfl
    simp only [Act.put, List.setIfInBounds_toArray, List.set_cons_zero, List.set_cons_succ]
    refine anyS_take (i := 9) (oi := _) (d := (some 49)) (v := ?_) rfl rfl (by kernel_rfl) (by kernel_rfl) (by kernel_rfl) (fun _ _ _ h => h) (YS.call (f := ?_) (args := ?_) (by kernel_rfl) (fun W hW => ?_) (fun W hW => ?_)) ?_
    rotate_left 3
    · obtain ⟨⟨a0, a1, a2, a3⟩, ⟨b0, b1, b2, b3⟩, ⟨c0, c1, c2, c3, c4, c5, c6, c7, c8, c9, c10⟩, ⟨d0, d1, d2, d3⟩⟩ := BX.out _ hW
      go_simp
      try (refine And.intro ?_ ?_ <;> with_reducible rfl)
    · exact N2.out _ hW
    simp only [Act.put, List.setIfInBounds_toArray, List.set_cons_zero, List.set_cons_succ]
    refine anyS_take (i := 10) (oi := _) (d := (some 50)) (v := ?_) rfl rfl (by kernel_rfl) (by kernel_rfl) (by kernel_rfl) (fun _ _ _ h => h) (YS.pure (by kernel_rfl) (fun W hW => ?_)) ?_
    rotate_left
    · obtain ⟨⟨a0, a1, a2, a3⟩, ⟨b0, b1, b2, b3⟩, ⟨c0, c1, c2, c3, c4, c5, c6, c7, c8, c9, c10⟩, ⟨d0, d1, d2, d3⟩⟩ := BX.out _ hW
      go_simp
      try with_reducible rfl
    simp only [Act.put, List.setIfInBounds_toArray, List.set_cons_zero, List.set_cons_succ]
    refine anyS_take (i := 11) (oi := _) (d := (some 51)) (v := ?_) rfl rfl (by kernel_rfl) (by kernel_rfl) (by kernel_rfl) (fun _ _ _ h => h) (YS.pure (by kernel_rfl) (fun W hW => ?_)) ?_
    rotate_left
    · obtain ⟨⟨a0, a1, a2, a3⟩, ⟨b0, b1, b2, b3⟩, ⟨c0, c1, c2, c3, c4, c5, c6, c7, c8, c9, c10⟩, ⟨d0, d1, d2, d3⟩⟩ := BX.out _ hW
      go_simp
      try with_reducible rfl
    simp only [Act.put, List.setIfInBounds_toArray, List.set_cons_zero, List.set_cons_succ]
    refine anyS_take (i := 12) (oi := _) (d := (some 52)) (v := ?_) rfl rfl (by kernel_rfl) (by kernel_rfl) (by kernel_rfl) (fun _ _ _ h => h) (YS.pure (by kernel_rfl) (fun W hW => ?_)) ?_
    rotate_left
    · obtain ⟨⟨a0, a1, a2, a3⟩, ⟨b0, b1, b2, b3⟩, ⟨c0, c1, c2, c3, c4, c5, c6, c7, c8, c9, c10⟩, ⟨d0, d1, d2, d3⟩⟩ := BX.out _ hW
      go_simp
      try with_reducible rfl
    simp only [Act.put, List.setIfInBounds_toArray, List.set_cons_zero, List.set_cons_succ]
    refine anyS_take (i := 13) (oi := _) (d := (some 53)) (v := ?_) rfl rfl (by kernel_rfl) (by kernel_rfl) (by kernel_rfl) (fun _ _ _ h => h) (YS.pure (by kernel_rfl) (fun W hW => ?_)) ?_
    rotate_left
    · obtain ⟨⟨a0, a1, a2, a3⟩, ⟨b0, b1, b2, b3⟩, ⟨c0, c1, c2, c3, c4, c5, c6, c7, c8, c9, c10⟩, ⟨d0, d1, d2, d3⟩⟩ := BX.out _ hW
      go_simp
      try with_reducible rfl
    simp only [Act.put, List.setIfInBounds_toArray, List.set_cons_zero, List.set_cons_succ]
    refine anyS_take (i := 14) (oi := _) (d := (some 54)) (v := ?_) rfl rfl (by kernel_rfl) (by kernel_rfl) (by kernel_rfl) (fun _ _ _ h => h) (YS.call (f := ?_) (args := ?_) (by kernel_rfl) (fun W hW => ?_) (fun W hW => ?_)) ?_
    rotate_left 3
    · obtain ⟨⟨a0, a1, a2, a3⟩, ⟨b0, b1, b2, b3⟩, ⟨c0, c1, c2, c3, c4, c5, c6, c7, c8, c9, c10⟩, ⟨d0, d1, d2, d3⟩⟩ := BX.out _ hW
      go_simp
      try (refine And.intro ?_ ?_ <;> with_reducible rfl)
    · exact F1.out _ hW
    simp only [Act.put, List.setIfInBounds_toArray, List.set_cons_zero, List.set_cons_succ]
    refine anyS_take (i := 15) (oi := _) (d := (some 55)) (v := ?_) rfl rfl (by kernel_rfl) (by kernel_rfl) (by kernel_rfl) (fun _ _ _ h => h) (YS.pure (by kernel_rfl) (fun W hW => ?_)) ?_
    rotate_left
    · obtain ⟨⟨a0, a1, a2, a3⟩, ⟨b0, b1, b2, b3⟩, ⟨c0, c1, c2, c3, c4, c5, c6, c7, c8, c9, c10⟩, ⟨d0, d1, d2, d3⟩⟩ := BX.out _ hW
      go_simp
      try with_reducible rfl
    simp only [Act.put, List.setIfInBounds_toArray, List.set_cons_zero, List.set_cons_succ]
    refine anyS_take (i := 16) (oi := _) (d := (some 56)) (v := ?_) rfl rfl (by kernel_rfl) (by kernel_rfl) (by kernel_rfl) (fun _ _ _ h => h) (YS.call (f := ?_) (args := ?_) (by kernel_rfl) (fun W hW => ?_) (fun W hW => ?_)) ?_
    rotate_left 3
    · obtain ⟨⟨a0, a1, a2, a3⟩, ⟨b0, b1, b2, b3⟩, ⟨c0, c1, c2, c3, c4, c5, c6, c7, c8, c9, c10⟩, ⟨d0, d1, d2, d3⟩⟩ := BX.out _ hW
      go_simp
      try (refine And.intro ?_ ?_ <;> with_reducible rfl)
    · exact F2.out _ hW
    simp only [Act.put, List.setIfInBounds_toArray, List.set_cons_zero, List.set_cons_succ]
    refine anyS_take (i := 17) (oi := _) (d := (some 57)) (v := ?_) rfl rfl (by kernel_rfl) (by kernel_rfl) (by kernel_rfl) (fun _ _ _ h => h) (YS.pure (by kernel_rfl) (fun W hW => ?_)) ?_
    rotate_left
    · obtain ⟨⟨a0, a1, a2, a3⟩, ⟨b0, b1, b2, b3⟩, ⟨c0, c1, c2, c3, c4, c5, c6, c7, c8, c9, c10⟩, ⟨d0, d1, d2, d3⟩⟩ := BX.out _ hW
      go_simp
      try with_reducible rfl
    simp only [Act.put, List.setIfInBounds_toArray, List.set_cons_zero, List.set_cons_succ]
    refine anyS_take (i := 18) (oi := _) (d := (some 58)) (v := ?_) rfl rfl (by kernel_rfl) (by kernel_rfl) (by kernel_rfl) (fun _ _ _ h => h) (YS.pure (by kernel_rfl) (fun W hW => ?_)) ?_
    rotate_left
    · obtain ⟨⟨a0, a1, a2, a3⟩, ⟨b0, b1, b2, b3⟩, ⟨c0, c1, c2, c3, c4, c5, c6, c7, c8, c9, c10⟩, ⟨d0, d1, d2, d3⟩⟩ := BX.out _ hW
      go_simp
      try with_reducible rfl
    simp only [Act.put, List.setIfInBounds_toArray, List.set_cons_zero, List.set_cons_succ]
    refine anyS_take (i := 19) (oi := _) (d := (some 59)) (v := ?_) rfl rfl (by kernel_rfl) (by kernel_rfl) (by kernel_rfl) (fun _ _ _ h => h) (YS.pure (by kernel_rfl) (fun W hW => ?_)) ?_
    rotate_left
    · obtain ⟨⟨a0, a1, a2, a3⟩, ⟨b0, b1, b2, b3⟩, ⟨c0, c1, c2, c3, c4, c5, c6, c7, c8, c9, c10⟩, ⟨d0, d1, d2, d3⟩⟩ := BX.out _ hW
      go_simp
      try with_reducible rfl
    simp only [Act.put, List.setIfInBounds_toArray, List.set_cons_zero, List.set_cons_succ]
    refine anyS_take (i := 20) (oi := _) (d := (some 60)) (v := ?_) rfl rfl (by kernel_rfl) (by kernel_rfl) (by kernel_rfl) (fun _ _ _ h => h) (YS.pure (by kernel_rfl) (fun W hW => ?_)) ?_
    rotate_left
    · obtain ⟨⟨a0, a1, a2, a3⟩, ⟨b0, b1, b2, b3⟩, ⟨c0, c1, c2, c3, c4, c5, c6, c7, c8, c9, c10⟩, ⟨d0, d1, d2, d3⟩⟩ := BX.out _ hW
      go_simp
      try with_reducible rfl
    simp only [Act.put, List.setIfInBounds_toArray, List.set_cons_zero, List.set_cons_succ]
    refine anyS_take (i := 21) (oi := _) (d := (some 61)) (v := ?_) rfl rfl (by kernel_rfl) (by kernel_rfl) (by kernel_rfl) (fun _ _ _ h => h) (YS.pure (by kernel_rfl) (fun W hW => ?_)) ?_
    rotate_left
    · obtain ⟨⟨a0, a1, a2, a3⟩, ⟨b0, b1, b2, b3⟩, ⟨c0, c1, c2, c3, c4, c5, c6, c7, c8, c9, c10⟩, ⟨d0, d1, d2, d3⟩⟩ := BX.out _ hW
      go_simp
      try with_reducible rfl
    simp only [Act.put, List.setIfInBounds_toArray, List.set_cons_zero, List.set_cons_succ]
    refine anyS_take (i := 22) (oi := _) (d := (some 62)) (v := ?_) rfl rfl (by kernel_rfl) (by kernel_rfl) (by kernel_rfl) (fun _ _ _ h => h) (YS.call (f := ?_) (args := ?_) (by kernel_rfl) (fun W hW => ?_) (fun W hW => ?_)) ?_
    rotate_left 3
    · obtain ⟨⟨a0, a1, a2, a3⟩, ⟨b0, b1, b2, b3⟩, ⟨c0, c1, c2, c3, c4, c5, c6, c7, c8, c9, c10⟩, ⟨d0, d1, d2, d3⟩⟩ := BX.out _ hW
      go_simp
      try (refine And.intro ?_ ?_ <;> with_reducible rfl)
    · exact V1.out _ hW
    simp only [Act.put, List.setIfInBounds_toArray, List.set_cons_zero, List.set_cons_succ]
    refine anyS_take (i := 23) (oi := _) (d := (some 63)) (v := ?_) rfl rfl (by kernel_rfl) (by kernel_rfl) (by kernel_rfl) (fun _ _ _ h => h) (YS.pure (by kernel_rfl) (fun W hW => ?_)) ?_
    rotate_left
    · obtain ⟨⟨a0, a1, a2, a3⟩, ⟨b0, b1, b2, b3⟩, ⟨c0, c1, c2, c3, c4, c5, c6, c7, c8, c9, c10⟩, ⟨d0, d1, d2, d3⟩⟩ := BX.out _ hW
      go_simp
      try with_reducible rfl
    simp only [Act.put, List.setIfInBounds_toArray, List.set_cons_zero, List.set_cons_succ]
    refine anyS_take (i := 24) (oi := _) (d := (some 64)) (v := ?_) rfl rfl (by kernel_rfl) (by kernel_rfl) (by kernel_rfl) (fun _ _ _ h => h) (YS.pure (by kernel_rfl) (fun W hW => ?_)) ?_
    rotate_left
    · obtain ⟨⟨a0, a1, a2, a3⟩, ⟨b0, b1, b2, b3⟩, ⟨c0, c1, c2, c3, c4, c5, c6, c7, c8, c9, c10⟩, ⟨d0, d1, d2, d3⟩⟩ := BX.out _ hW
      go_simp
      try with_reducible rfl
    simp only [Act.put, List.setIfInBounds_toArray, List.set_cons_zero, List.set_cons_succ]
    refine anyS_take (i := 25) (oi := _) (d := (some 65)) (v := ?_) rfl rfl (by kernel_rfl) (by kernel_rfl) (by kernel_rfl) (fun _ _ _ h => h) (YS.call (f := ?_) (args := ?_) (by kernel_rfl) (fun W hW => ?_) (fun W hW => ?_)) ?_
    rotate_left 3
    · obtain ⟨⟨a0, a1, a2, a3⟩, ⟨b0, b1, b2, b3⟩, ⟨c0, c1, c2, c3, c4, c5, c6, c7, c8, c9, c10⟩, ⟨d0, d1, d2, d3⟩⟩ := BX.out _ hW
      go_simp
      try (refine And.intro ?_ ?_ <;> with_reducible rfl)
    · exact V2.out _ hW
    simp only [Act.put, List.setIfInBounds_toArray, List.set_cons_zero, List.set_cons_succ]
    refine anyS_take (i := 26) (oi := _) (d := (some 66)) (v := ?_) rfl rfl (by kernel_rfl) (by kernel_rfl) (by kernel_rfl) (fun _ _ _ h => h) (YS.pure (by kernel_rfl) (fun W hW => ?_)) ?_
    rotate_left
    · obtain ⟨⟨a0, a1, a2, a3⟩, ⟨b0, b1, b2, b3⟩, ⟨c0, c1, c2, c3, c4, c5, c6, c7, c8, c9, c10⟩, ⟨d0, d1, d2, d3⟩⟩ := BX.out _ hW
      go_simp
      try with_reducible rfl
    simp only [Act.put, List.setIfInBounds_toArray, List.set_cons_zero, List.set_cons_succ]
    refine anyS_take (i := 27) (oi := _) (d := (some 67)) (v := ?_) rfl rfl (by kernel_rfl) (by kernel_rfl) (by kernel_rfl) (fun _ _ _ h => h) (YS.pure (by kernel_rfl) (fun W hW => ?_)) ?_
    rotate_left
    · obtain ⟨⟨a0, a1, a2, a3⟩, ⟨b0, b1, b2, b3⟩, ⟨c0, c1, c2, c3, c4, c5, c6, c7, c8, c9, c10⟩, ⟨d0, d1, d2, d3⟩⟩ := BX.out _ hW
      go_simp
      try with_reducible rfl
    simp only [Act.put, List.setIfInBounds_toArray, List.set_cons_zero, List.set_cons_succ]
    refine anyS_take (i := 28) (oi := _) (d := (some 68)) (v := ?_) rfl rfl (by kernel_rfl) (by kernel_rfl) (by kernel_rfl) (fun _ _ _ h => h) (YS.pure (by kernel_rfl) (fun W hW => ?_)) ?_
    rotate_left
    · obtain ⟨⟨a0, a1, a2, a3⟩, ⟨b0, b1, b2, b3⟩, ⟨c0, c1, c2, c3, c4, c5, c6, c7, c8, c9, c10⟩, ⟨d0, d1, d2, d3⟩⟩ := BX.out _ hW
      go_simp
      try with_reducible rfl
    simp only [Act.put, List.setIfInBounds_toArray, List.set_cons_zero, List.set_cons_succ]
    refine anyS_take (i := 29) (oi := _) (d := (some 69)) (v := ?_) rfl rfl (by kernel_rfl) (by kernel_rfl) (by kernel_rfl) (fun _ _ _ h => h) (YS.pure (by kernel_rfl) (fun W hW => ?_)) ?_
    rotate_left
    · obtain ⟨⟨a0, a1, a2, a3⟩, ⟨b0, b1, b2, b3⟩, ⟨c0, c1, c2, c3, c4, c5, c6, c7, c8, c9, c10⟩, ⟨d0, d1, d2, d3⟩⟩ := BX.out _ hW
      go_simp
      try with_reducible rfl
    simp only [Act.put, List.setIfInBounds_toArray, List.set_cons_zero, List.set_cons_succ]
    refine anyS_take (i := 30) (oi := _) (d := (some 70)) (v := ?_) rfl rfl (by kernel_rfl) (by kernel_rfl) (by kernel_rfl) (fun _ _ _ h => h) (YS.call (f := ?_) (args := ?_) (by kernel_rfl) (fun W hW => ?_) (fun W hW => ?_)) ?_
    rotate_left 3
    · obtain ⟨⟨a0, a1, a2, a3⟩, ⟨b0, b1, b2, b3⟩, ⟨c0, c1, c2, c3, c4, c5, c6, c7, c8, c9, c10⟩, ⟨d0, d1, d2, d3⟩⟩ := BX.out _ hW
      go_simp
      try (refine And.intro ?_ ?_ <;> with_reducible rfl)
    · exact S1.out _ hW
    simp only [Act.put, List.setIfInBounds_toArray, List.set_cons_zero, List.set_cons_succ]
    refine anyS_take (i := 31) (oi := _) (d := (some 71)) (v := ?_) rfl rfl (by kernel_rfl) (by kernel_rfl) (by kernel_rfl) (fun _ _ _ h => h) (YS.pure (by kernel_rfl) (fun W hW => ?_)) ?_
    rotate_left
    · obtain ⟨⟨a0, a1, a2, a3⟩, ⟨b0, b1, b2, b3⟩, ⟨c0, c1, c2, c3, c4, c5, c6, c7, c8, c9, c10⟩, ⟨d0, d1, d2, d3⟩⟩ := BX.out _ hW
      go_simp
      try with_reducible rfl
    simp only [Act.put, List.setIfInBounds_toArray, List.set_cons_zero, List.set_cons_succ]
    refine anyS_take (i := 32) (oi := _) (d := (some 72)) (v := ?_) rfl rfl (by kernel_rfl) (by kernel_rfl) (by kernel_rfl) (fun _ _ _ h => h) (YS.call (f := ?_) (args := ?_) (by kernel_rfl) (fun W hW => ?_) (fun W hW => ?_)) ?_
    rotate_left 3
    · obtain ⟨⟨a0, a1, a2, a3⟩, ⟨b0, b1, b2, b3⟩, ⟨c0, c1, c2, c3, c4, c5, c6, c7, c8, c9, c10⟩, ⟨d0, d1, d2, d3⟩⟩ := BX.out _ hW
      go_simp
      try (refine And.intro ?_ ?_ <;> with_reducible rfl)
    · exact S2.out _ hW
    simp only [Act.put, List.setIfInBounds_toArray, List.set_cons_zero, List.set_cons_succ]
    refine anyS_take (i := 33) (oi := _) (d := (some 73)) (v := ?_) rfl rfl (by kernel_rfl) (by kernel_rfl) (by kernel_rfl) (fun _ _ _ h => h) (YS.pure (by kernel_rfl) (fun W hW => ?_)) ?_
    rotate_left
    · obtain ⟨⟨a0, a1, a2, a3⟩, ⟨b0, b1, b2, b3⟩, ⟨c0, c1, c2, c3, c4, c5, c6, c7, c8, c9, c10⟩, ⟨d0, d1, d2, d3⟩⟩ := BX.out _ hW
      go_simp
      try with_reducible rfl
    simp only [Act.put, List.setIfInBounds_toArray, List.set_cons_zero, List.set_cons_succ]
    refine anyS_take (i := 34) (oi := _) (d := (some 74)) (v := ?_) rfl rfl (by kernel_rfl) (by kernel_rfl) (by kernel_rfl) (fun _ _ _ h => h) (YS.pure (by kernel_rfl) (fun W hW => ?_)) ?_
    rotate_left
    · obtain ⟨⟨a0, a1, a2, a3⟩, ⟨b0, b1, b2, b3⟩, ⟨c0, c1, c2, c3, c4, c5, c6, c7, c8, c9, c10⟩, ⟨d0, d1, d2, d3⟩⟩ := BX.out _ hW
      go_simp
      try with_reducible rfl
    simp only [Act.put, List.setIfInBounds_toArray, List.set_cons_zero, List.set_cons_succ]
    refine anyS_take (i := 35) (oi := _) (d := (some 75)) (v := ?_) rfl rfl (by kernel_rfl) (by kernel_rfl) (by kernel_rfl) (fun _ _ _ h => h) (YS.pure (by kernel_rfl) (fun W hW => ?_)) ?_
    rotate_left
    · obtain ⟨⟨a0, a1, a2, a3⟩, ⟨b0, b1, b2, b3⟩, ⟨c0, c1, c2, c3, c4, c5, c6, c7, c8, c9, c10⟩, ⟨d0, d1, d2, d3⟩⟩ := BX.out _ hW
      go_simp
      try with_reducible rfl
    simp only [Act.put, List.setIfInBounds_toArray, List.set_cons_zero, List.set_cons_succ]
    refine anyS_take (i := 36) (oi := _) (d := (some 76)) (v := ?_) rfl rfl (by kernel_rfl) (by kernel_rfl) (by kernel_rfl) (fun _ _ _ h => h) (YS.pure (by kernel_rfl) (fun W hW => ?_)) ?_
    rotate_left
    · obtain ⟨⟨a0, a1, a2, a3⟩, ⟨b0, b1, b2, b3⟩, ⟨c0, c1, c2, c3, c4, c5, c6, c7, c8, c9, c10⟩, ⟨d0, d1, d2, d3⟩⟩ := BX.out _ hW
      go_simp
      try with_reducible rfl
    simp only [Act.put, List.setIfInBounds_toArray, List.set_cons_zero, List.set_cons_succ]
    refine anyS_take (i := 37) (oi := _) (d := (some 77)) (v := ?_) rfl rfl (by kernel_rfl) (by kernel_rfl) (by kernel_rfl) (fun _ _ _ h => h) (YS.pure (by kernel_rfl) (fun W hW => ?_)) ?_
    rotate_left
    · obtain ⟨⟨a0, a1, a2, a3⟩, ⟨b0, b1, b2, b3⟩, ⟨c0, c1, c2, c3, c4, c5, c6, c7, c8, c9, c10⟩, ⟨d0, d1, d2, d3⟩⟩ := BX.out _ hW
      go_simp
      try with_reducible rfl
    simp only [Act.put, List.setIfInBounds_toArray, List.set_cons_zero, List.set_cons_succ]
    refine anyS_take (i := 38) (oi := _) (d := (some 78)) (v := ?_) rfl rfl (by kernel_rfl) (by kernel_rfl) (by kernel_rfl) (fun _ _ _ h => h) (YS.call (f := ?_) (args := ?_) (by kernel_rfl) (fun W hW => ?_) (fun W hW => ?_)) ?_
    rotate_left 3
    · obtain ⟨⟨a0, a1, a2, a3⟩, ⟨b0, b1, b2, b3⟩, ⟨c0, c1, c2, c3, c4, c5, c6, c7, c8, c9, c10⟩, ⟨d0, d1, d2, d3⟩⟩ := BX.out _ hW
      go_simp
      try (refine And.intro ?_ ?_ <;> with_reducible rfl)
    · exact M1.out _ hW
    simp only [Act.put, List.setIfInBounds_toArray, List.set_cons_zero, List.set_cons_succ]
    refine anyS_take (i := 39) (oi := _) (d := (some 79)) (v := ?_) rfl rfl (by kernel_rfl) (by kernel_rfl) (by kernel_rfl) (fun _ _ _ h => h) (YS.pure (by kernel_rfl) (fun W hW => ?_)) ?_
    rotate_left
    · obtain ⟨⟨a0, a1, a2, a3⟩, ⟨b0, b1, b2, b3⟩, ⟨c0, c1, c2, c3, c4, c5, c6, c7, c8, c9, c10⟩, ⟨d0, d1, d2, d3⟩⟩ := BX.out _ hW
      go_simp
      try with_reducible rfl
    simp only [Act.put, List.setIfInBounds_toArray, List.set_cons_zero, List.set_cons_succ]
    refine anyS_take (i := 40) (oi := _) (d := (some 80)) (v := ?_) rfl rfl (by kernel_rfl) (by kernel_rfl) (by kernel_rfl) (fun _ _ _ h => h) (YS.pure (by kernel_rfl) (fun W hW => ?_)) ?_
    rotate_left
    · obtain ⟨⟨a0, a1, a2, a3⟩, ⟨b0, b1, b2, b3⟩, ⟨c0, c1, c2, c3, c4, c5, c6, c7, c8, c9, c10⟩, ⟨d0, d1, d2, d3⟩⟩ := BX.out _ hW
      go_simp
      try with_reducible rfl
    simp only [Act.put, List.setIfInBounds_toArray, List.set_cons_zero, List.set_cons_succ]
    refine anyS_take (i := 41) (oi := _) (d := (some 81)) (v := ?_) rfl rfl (by kernel_rfl) (by kernel_rfl) (by kernel_rfl) (fun _ _ _ h => h) (YS.call (f := ?_) (args := ?_) (by kernel_rfl) (fun W hW => ?_) (fun W hW => ?_)) ?_
    rotate_left 3
    · obtain ⟨⟨a0, a1, a2, a3⟩, ⟨b0, b1, b2, b3⟩, ⟨c0, c1, c2, c3, c4, c5, c6, c7, c8, c9, c10⟩, ⟨d0, d1, d2, d3⟩⟩ := BX.out _ hW
      go_simp
      try (refine And.intro ?_ ?_ <;> with_reducible rfl)
    · exact M2.out _ hW
    simp only [Act.put, List.setIfInBounds_toArray, List.set_cons_zero, List.set_cons_succ]
    refine anyS_take (i := 42) (oi := _) (d := (some 82)) (v := ?_) rfl rfl (by kernel_rfl) (by kernel_rfl) (by kernel_rfl) (fun _ _ _ h => h) (YS.pure (by kernel_rfl) (fun W hW => ?_)) ?_
    rotate_left
    · obtain ⟨⟨a0, a1, a2, a3⟩, ⟨b0, b1, b2, b3⟩, ⟨c0, c1, c2, c3, c4, c5, c6, c7, c8, c9, c10⟩, ⟨d0, d1, d2, d3⟩⟩ := BX.out _ hW
      go_simp
      try with_reducible rfl
    simp only [Act.put, List.setIfInBounds_toArray, List.set_cons_zero, List.set_cons_succ]
    refine anyS_take (i := 43) (oi := _) (d := (some 83)) (v := ?_) rfl rfl (by kernel_rfl) (by kernel_rfl) (by kernel_rfl) (fun _ _ _ h => h) (YS.pure (by kernel_rfl) (fun W hW => ?_)) ?_
    rotate_left
    · obtain ⟨⟨a0, a1, a2, a3⟩, ⟨b0, b1, b2, b3⟩, ⟨c0, c1, c2, c3, c4, c5, c6, c7, c8, c9, c10⟩, ⟨d0, d1, d2, d3⟩⟩ := BX.out _ hW
      go_simp
      try with_reducible rfl
    simp only [Act.put, List.setIfInBounds_toArray, List.set_cons_zero, List.set_cons_succ]
    refine anyS_done (by kernel_rfl) (fun W hW => ?_) _
    go_wp2_with fail
    go_meet
    exact ⟨rfl, hW⟩
  case rest =>
    obtain ⟨rfl, hB5⟩ := hcut
    have HB5 := Lib.hid hB5
    clear hB5 P1 P2 N1 N2 F1 F2 V1 V2 S1 S2 M1 M2 LX LY LO HB2 HB3 HB4
    go_wp2_with fail
    go_loopw [11] (fun i wr => ∃ k : Nat, k ≤ 20 ∧ i = .int .i64 k ∧ Below w1.heap.size w1 wr) (fun i _ => 20 - (intOf i).toNat)
    case atStart => exact ⟨0, by omega, rfl, HB5.out⟩
    case round =>
      clear HB5
      obtain ⟨k, hk, rfl, hB⟩ := hrel
      have HB := Lib.hid hB
      clear hB
      by_cases hlt : k < 20
      · have i1 : (k : Int) < 20 := by omega
        have i2 : (0 : Int) ≤ (k : Int) := by omega
        have wk : IntKind.wrap .u8 (k : Int) = (k : Int) := by rw [IntKind.wrap_u8]; omega
        go_wp2_with fail
        go_loopw [12] (fun i wr => ∃ m : Nat, m ≤ 12 ∧ i = .int .i64 m ∧ Below w1.heap.size w1 wr) (fun i _ => 12 - (intOf i).toNat)
        case atStart => exact ⟨0, by omega, rfl, HB.out⟩
        case round =>
          clear HB
          obtain ⟨m, hm, rfl, hB⟩ := hrel
          have HB := Lib.hid hB
          clear hB
          by_cases hlm : m < 12
          · have j1 : (m : Int) < 12 := by omega
            have j2 : (0 : Int) ≤ (m : Int) := by omega
            have wm : IntKind.wrap .u8 (m : Int) = (m : Int) := by rw [IntKind.wrap_u8]; omega
            go_wp2_with (first | (go_at_call 11; refine (EVT.out k m (by omega) _ HB.out).mono ?_; rintro e W1 ⟨rfl, rfl⟩) | (go_at_call 26; refine (revent_any k m _).mono ?_; rintro e W1 ⟨rfl, rfl⟩))
            go_roundw
            case rel => exact ⟨m + 1, by omega, by go_num, HB.out⟩
            case measure => simp [intOf]; omega
          · obtain rfl : m = 12 := by omega
            go_wp2_with (first | (go_at_call 27; refine (act_any k _).mono ?_; rintro e W1 ⟨rfl, hb6⟩; have HB6 := Lib.hid (below_step HB.out hb6); clear hb6) | (go_at_call 28; refine (ract_any k _).mono ?_; rintro e W2 ⟨rfl, rfl⟩) | (go_at_call 14; refine (scope_any k _).mono ?_; rintro e W3 ⟨rfl, hb7⟩; have HB7 := Lib.hid (below_step HB6.out hb7); clear hb7) | (go_at_call 29; refine (rscope_any k _).mono ?_; rintro e W4 ⟨rfl, rfl⟩))
            go_roundw
            case rel => exact ⟨k + 1, by omega, by go_num, HB7.out⟩
            case measure => simp [intOf]; omega
      · obtain rfl : k = 20 := by omega
        obtain ⟨w5, hw5⟩ : ∃ W : World, W = wr := ⟨_, rfl⟩
        subst hw5
        obtain ⟨⟨a0, a1, a2, a3⟩, ⟨b0, b1, b2, b3⟩, ⟨c0, c1, c2, c3, c4, c5, c6, c7, c8, c9, c10⟩, ⟨d0, d1, d2, d3⟩⟩ := BX.out _ HB.out
        go_wp2_with fail
        refine (RC.out _ HB.out HSX.out).mono ?_
        rintro e w6 ⟨y0, rfl, l0, t0, f0, hb6⟩
        have HB6 := Lib.hid (below_step HB.out hb6)
        have L0 := Lib.hid l0
        have T0 := Lib.hid t0
        have F0 := Lib.hid f0
        clear l0 t0 f0 hb6 a0 a1 a2 a3 b0 b1 b2 b3 c0 c1 c2 c3 c4 c5 c6 c7 c8 c9 c10 d0 d1 d2 d3
        obtain ⟨⟨a0, a1, a2, a3⟩, ⟨b0, b1, b2, b3⟩, ⟨c0, c1, c2, c3, c4, c5, c6, c7, c8, c9, c10⟩, ⟨d0, d1, d2, d3⟩⟩ := BX.out _ HB6.out
        go_upto_region 16 with fail
        obtain ⟨W6, hW6⟩ : ∃ W, w6.alloc (.cells #[.string y0.name, .slice y0.vo y0.vm y0.vc, .slice y0.no y0.nn y0.nc, .slice y0.fo y0.fn y0.fc] 30) = W := ⟨_, rfl⟩
        rw [hW6]
        have hal : Below w6.heap.size w6 W6 := by rw [← hW6]; exact (Below.refl _ _).alloc (Nat.le_refl _) _
        have HC6 : Hid (Below w1.heap.size w1 W6) := Lib.hid (below_step HB6.out hal)
        have HH6 : Hid (W6.heap[w6.heap.size]? = some (.cells y0.cs 30 (0, 0))) := Lib.hid (by rw [← hW6]; exact heap_alloc_new _ _)
        have T6 := Lib.hid (T0.out.below hal)
        clear hal hW6 T0 a0 a1 a2 a3 b0 b1 b2 b3 c0 c1 c2 c3 c4 c5 c6 c7 c8 c9 c10 d0 d1 d2 d3 HB6
        obtain ⟨⟨a0, a1, a2, a3⟩, ⟨b0, b1, b2, b3⟩, ⟨c0, c1, c2, c3, c4, c5, c6, c7, c8, c9, c10⟩, ⟨d0, d1, d2, d3⟩⟩ := BX.out _ HC6.out
        go_wp2_with fail
        refine (CC.out _ HC6.out HSX.out).mono ?_
        rintro e w7 ⟨y1, rfl, l1, o1, r1, hb7⟩
        have HB7 : Hid (Below W6.heap.size W6 w7) := Lib.hid hb7
        have L1 := Lib.hid l1
        have O1 := Lib.hid o1
        have F1 := Lib.hid (copy_fit FX.out l1 o1 r1)
        clear l1 o1 r1 hb7 a0 a1 a2 a3 b0 b1 b2 b3 c0 c1 c2 c3 c4 c5 c6 c7 c8 c9 c10 d0 d1 d2 d3
        go_upto_region 17 with fail
        obtain ⟨W7, hW7⟩ : ∃ W, w7.alloc (.cells #[.string y1.name, .slice y1.vo y1.vm y1.vc, .slice y1.no y1.nn y1.nc, .slice y1.fo y1.fn y1.fc] 30) = W := ⟨_, rfl⟩
        rw [hW7]
        have hal : Below w7.heap.size w7 W7 := by rw [← hW7]; exact (Below.refl _ _).alloc (Nat.le_refl _) _
        have HC7 : Hid (Below W6.heap.size W6 W7) := Lib.hid (below_step HB7.out hal)
        have HH7 : Hid (W7.heap[w7.heap.size]? = some (.cells y1.cs 30 (0, 0))) := Lib.hid (by rw [← hW7]; exact heap_alloc_new _ _)
        have O7 := Lib.hid (Pr.own_mono O1.out hal)
        obtain ⟨Cb, hCb⟩ : ∃ b, w7.heap.size = b := ⟨_, rfl⟩
        obtain ⟨Db, hDb⟩ : ∃ b, w6.heap.size = b := ⟨_, rfl⟩
        rw [hCb] at HH7
        rw [hDb] at HH6
        rw [hCb, hDb]
        clear hal hW7 O1 HB7 hCb hDb
        have HD7 : Hid (Below w1.heap.size w1 W7) := Lib.hid (below_step HC6.out HC7.out)
        obtain ⟨⟨a0, a1, a2, a3⟩, ⟨b0, b1, b2, b3⟩, ⟨c0, c1, c2, c3, c4, c5, c6, c7, c8, c9, c10⟩, ⟨d0, d1, d2, d3⟩⟩ := BX.out _ HD7.out
        have k0 := cell_in HH7.out 0
        have k1 := cell_in HH7.out 1
        have k2 := cell_in HH7.out 2
        have k3 := cell_in HH7.out 3
        simp at k0 k1 k2 k3
        go_wp2_with fail
        refine (CS.out y1 _ (Pr.own_at O7.out) F1.out L1.out HD7.out).mono ?_
        rintro e w8 ⟨rfl, hb8⟩
        have HC8 : Hid (Below W6.heap.size W6 w8) := Lib.hid (below_step HC7.out hb8)
        have HH8 : Hid (w8.heap[Cb]? = some (.cells y1.cs 30 (0, 0))) := Lib.hid (by rw [hb8.block _ (Array.getElem?_eq_some_iff.1 HH7.out).1]; exact HH7.out)
        have O8 := Lib.hid (Pr.own_mono O7.out hb8)
        have KV : Hid (∀ W, Tu W6.heap.size w8 W → W.cell? ⟨Cb, 1, none⟩ = some (.slice y1.vo y1.vm y1.vc)) := Lib.hid (fun W h => h.sl HH8.out rfl)
        have KN : Hid (∀ W, Tu W6.heap.size w8 W → W.cell? ⟨Cb, 2, none⟩ = some (.slice y1.no y1.nn y1.nc)) := Lib.hid (fun W h => h.sl HH8.out rfl)
        have KF : Hid (∀ W, Tu W6.heap.size w8 W → W.cell? ⟨Cb, 3, none⟩ = some (.slice y1.fo y1.fn y1.fc)) := Lib.hid (fun W h => h.sl HH8.out rfl)
        have TN : Hid (∀ W k, Tu W6.heap.size w8 W → k < y1.nn → _) := Lib.hid (fun W k h hk => tu_node h O8.out hk)
        have FNO : Hid (∀ k, (y1.nf k).fit) := Lib.hid F1.out.2.2.1
        have FF := F1.out
        obtain ⟨-, -, -, -, fv, fn, ff, -, -, -⟩ := FF
        have HTS := Lib.hid (Tu.refl W6.heap.size w8)
        have kn := KN.out _ HTS.out
        clear hb8 HH7 O7 HC7 HD7 L1 F1 HH8 a0 a1 a2 a3 b0 b1 b2 b3 c0 c1 c2 c3 c4 c5 c6 c7 c8 c9 c10 d0 d1 d2 d3 k0 k1 k2 k3
        go_wp2_with fail
        clear kn
        go_loopw [15] (fun i wr => ∃ k : Nat, k ≤ y1.nn ∧ i = .int .i64 k ∧ Tu W6.heap.size w8 wr) (fun i _ => y1.nn - (intOf i).toNat)
        case atStart => exact ⟨0, by omega, rfl, HTS.out⟩
        case round =>
          clear HTS
          obtain ⟨k, hk, rfl, hT⟩ := hrel
          have HT := Lib.hid hT
          clear hT
          have kn := KN.out _ HT.out
          by_cases hlt : k < y1.nn
          · have i1 : (k : Int) < (y1.nn : Int) := by omega
            have i2 : (0 : Int) ≤ (k : Int) := by omega
            obtain ⟨G, hno, k9, k10, -, -, -⟩ := TN.out _ k HT.out hlt
            rw [hno] at kn
            have HNO := Lib.hid hno
            have fm := ((FNO.out k).2.2.2.1)
            have fq := ((FNO.out k).2.2.2.2.1)
            clear hno k10
            go_wp2_with fail
            clear kn k9
            go_loopw [16] (fun i wr => ∃ m : Nat, m ≤ (y1.nf k).m ∧ i = .int .i64 m ∧ Tu W6.heap.size w8 wr) (fun i _ => (y1.nf k).m - (intOf i).toNat)
            case atStart => exact ⟨0, by omega, rfl, HT.out⟩
            case round =>
              clear HT
              obtain ⟨m, hm, rfl, hT⟩ := hrel
              have HT := Lib.hid hT
              clear hT
              have kn := KN.out _ HT.out
              obtain ⟨G2, hno, k9, k10, -, -, -⟩ := TN.out _ k HT.out hlt
              obtain rfl : G = G2 := by have := HNO.out.symm.trans hno; simpa using this
              rw [hno] at kn
              clear hno
              by_cases hlm : m < (y1.nf k).m
              · have j1 : (m : Int) < ((y1.nf k).m : Int) := by omega
                have j2 : (0 : Int) ≤ (m : Int) := by omega
                obtain ⟨Gv, ho, ⟨u, ku⟩, kf, hset⟩ := tu_var HT.out (O8.out.z k hlt).1 hlm
                rw [ho] at k9
                have HS := Lib.hid hset
                clear ho hset k10
                go_wp2_with fail
                go_roundw
                case rel => exact ⟨m + 1, by omega, by go_num, HS.out _⟩
                case measure => simp [intOf]; omega
              · obtain rfl : m = (y1.nf k).m := by omega
                clear hm hlm
                go_wp2_with fail
                clear kn k9 k10
                go_loopw [17] (fun i wr => ∃ m : Nat, m ≤ (y1.nf k).n ∧ i = .int .i64 m ∧ Tu W6.heap.size w8 wr) (fun i _ => (y1.nf k).n - (intOf i).toNat)
                case atStart => exact ⟨0, by omega, rfl, HT.out⟩
                case round =>
                  clear HT
                  obtain ⟨m, hm, rfl, hT⟩ := hrel
                  have HT := Lib.hid hT
                  clear hT
                  have kn := KN.out _ HT.out
                  obtain ⟨G2, hno, k9, k10, ⟨u0, k0⟩, kf0, hset0⟩ := TN.out _ k HT.out hlt
                  obtain rfl : G = G2 := by have := HNO.out.symm.trans hno; simpa using this
                  rw [hno] at kn
                  have HS0 := Lib.hid hset0
                  clear hno k9 hset0
                  by_cases hlm : m < (y1.nf k).n
                  · have j1 : (m : Int) < ((y1.nf k).n : Int) := by omega
                    have j2 : (0 : Int) ≤ (m : Int) := by omega
                    obtain ⟨Gv, ho, ⟨u, ku⟩, kf, hset⟩ := tu_str HT.out (O8.out.z k hlt).2 hlm
                    rw [ho] at k10
                    have HS := Lib.hid hset
                    clear ho hset k0 kf0 HS0
                    go_wp2_with fail
                    go_roundw
                    case rel => exact ⟨m + 1, by omega, by go_num, HS.out _⟩
                    case measure => simp [intOf]; omega
                  · obtain rfl : m = (y1.nf k).n := by omega
                    clear hm hlm
                    go_wp2_with fail
                    go_roundw
                    case rel => exact ⟨k + 1, by omega, by go_num, HS0.out _⟩
                    case measure => simp [intOf]; omega
          · obtain rfl : k = y1.nn := by omega
            clear hk hlt
            have kv := KV.out _ HT.out
            go_wp2_with fail
            clear kn kv
            go_loopw [18] (fun i wr => ∃ k : Nat, k ≤ y1.vm ∧ i = .int .i64 k ∧ Tu W6.heap.size w8 wr) (fun i _ => y1.vm - (intOf i).toNat)
            case atStart => exact ⟨0, by omega, rfl, HT.out⟩
            case round =>
              clear HT
              obtain ⟨k, hk, rfl, hT⟩ := hrel
              have HT := Lib.hid hT
              clear hT
              have kv := KV.out _ HT.out
              by_cases hlt : k < y1.vm
              · have i1 : (k : Int) < (y1.vm : Int) := by omega
                have i2 : (0 : Int) ≤ (k : Int) := by omega
                obtain ⟨Gv, ho, ⟨u, ku⟩, kf, hset⟩ := tu_var HT.out O8.out.v hlt
                rw [ho] at kv
                have HS := Lib.hid hset
                clear ho hset
                go_wp2_with fail
                go_roundw
                case rel => exact ⟨k + 1, by omega, by go_num, HS.out _⟩
                case measure => simp [intOf]; omega
              · obtain rfl : k = y1.vm := by omega
                clear hk hlt
                have kx := KF.out _ HT.out
                go_wp2_with fail
                clear kv kx
                go_loopw [19] (fun i wr => ∃ k : Nat, k ≤ y1.fn ∧ i = .int .i64 k ∧ Tu W6.heap.size w8 wr) (fun i _ => y1.fn - (intOf i).toNat)
                case atStart => exact ⟨0, by omega, rfl, HT.out⟩
                case round =>
                  clear HT
                  obtain ⟨k, hk, rfl, hT⟩ := hrel
                  have HT := Lib.hid hT
                  clear hT
                  have kx := KF.out _ HT.out
                  by_cases hlt : k < y1.fn
                  · have i1 : (k : Int) < (y1.fn : Int) := by omega
                    have i2 : (0 : Int) ≤ (k : Int) := by omega
                    obtain ⟨Gv, ho, ⟨u, ku⟩, kf, hset⟩ := tu_flow HT.out O8.out.f hlt
                    rw [ho] at kx
                    have HS := Lib.hid hset
                    clear ho hset
                    go_wp2_with fail
                    go_roundw
                    case rel => exact ⟨k + 1, by omega, by go_num, HS.out _⟩
                    case measure => simp [intOf]; omega
                  · obtain rfl : k = y1.fn := by omega
                    clear hk hlt
                    have hb9 := below_step HC6.out (HC8.out.trans HT.out.below)
                    have HB9 := Lib.hid hb9
                    have t9 := T6.out.below (HC8.out.trans HT.out.below)
                    have hh9 : wr.heap[Db]? = some (.cells y0.cs 30 (0, 0)) := by rw [(HC8.out.trans HT.out.below).block _ (Array.getElem?_eq_some_iff.1 HH6.out).1]; exact HH6.out
                    have SM := Lib.hid (SC.out y0 _ t9 F0.out L0.out hb9)
                    obtain ⟨⟨a0, a1, a2, a3⟩, -⟩ := BX.out _ hb9
                    have k0 := cell_in hh9 0
                    have k1 := cell_in hh9 1
                    have k2 := cell_in hh9 2
                    have k3 := cell_in hh9 3
                    simp at k0 k1 k2 k3
                    clear hb9 t9 hh9
                    go_wp2_with (first | (go_at_call 25; refine SM.out.mono ?_; rintro e wa ⟨rfl, hba⟩; have HBA := Lib.hid (below_step HB9.out hba); clear hba) | (go_at_call 10; refine (AW.out _ HBA.out).mono ?_; rintro e wb ⟨rfl, hbb⟩))
                    go_ret
                    exact ⟨rfl, below_step (below_step HB1.out HBA.out) hbb⟩
end Go.Proofs.YtdnelpmolenkoaaDoor
