/- What the codec's reader reads: variables, a flow, a node. Conditions: the bytes are not too many. -/
import Derived.Test.YtblebjgjomamdaaDoorCr2
namespace Go.Proofs.YtblebjgjomamdaaDoor
open Go.RowKit Go.Ow Go.Wi

theorem ownC_ne {w : World} {B C k : Nat} {e t : TypeId} {n : Nat} {u : Value} {xs : List Value} {cs : Array Value} (h : w.ownsRow B e C u n xs) (hk : Blk w k cs t) (hne : e ≠ t) : ∀ g, u.ownBlock = some g → g ≠ k := by
  intro g hg e0
  subst e0
  rcases h.2 with ⟨rfl, _⟩ | ⟨g', cap, cur, rfl, _, hh, _⟩
  · simp [Value.ownBlock] at hg
  · simp only [Value.ownBlock, Option.some.injEq] at hg
    subst hg
    have hk' : w.heap[g']? = some (.cells cs t (0, 0)) := hk
    rw [hk'] at hh
    simp only [Option.some.injEq, Obj.cells.injEq] at hh
    exact hne hh.2.1.symm
theorem vars_rd (b B : Nat) (c : Cs) (w : World) (h : RdC w b B c) (hl : c.r.l.length ≤ 10000) :
    Calls Tryd.prog 23 #[pt B] w fun e w' => ∃ u, e = .returned u ∧ w'.ownsRow w.heap.size 49 4 u (Cs.list rdVar c).1.length ((Cs.list rdVar c).1.flatMap vcell) ∧ Bu2 b B w w' ∧ RdC w' b B (Cs.list rdVar c).2 := by
  have lt1 := Two.lt h.wr
  have lt2 := h.cr.lt
  have H := Lib.hid (list_var b B w.heap.size c (w.alloc (.cells #[pt B] 59)) (h.al _) hl (by simp) (by simp) (by omega) (by omega))
  clear h
  go_enter Tryd.func23, Tryd.ntmps23
  go_wp2_with (go_at_call 41; with_reducible refine H.out.mono ?_; rintro e w1 ⟨u, rfl, ho, hb, hr⟩)
  go_ret
  exact ⟨_, rfl, ownC_base ho (by simp), ((Bu2.refl b B w).al _).trans hb, hr⟩

/-- a function's result in block w.heap.size (zeros zs so far), its variable in block A2, the reader -/
structure ND (w : World) (b B A2 : Nat) (t : TypeId) (zs cs : Array Value) (c : Cs) (wr : World) : Prop where
  bu : Bu2 b B w wr
  rd : RdC wr b B c
  a : Blk wr w.heap.size zs t
  a2 : Blk wr A2 cs t
  lt : w.heap.size < A2
  lb : b < w.heap.size
  lB : B < w.heap.size
theorem ND.step {w wr wr' : World} {b B A2 : Nat} {t : TypeId} {zs cs : Array Value} {c c' : Cs} (h : ND w b B A2 t zs cs c wr) (hb : Bu2 b B wr wr') (hr : RdC wr' b B c') : ND w b B A2 t zs cs c' wr' :=
  ⟨h.bu.trans hb, hr, h.a.bu2 hb (Nat.ne_of_gt h.lb) (Nat.ne_of_gt h.lB), h.a2.bu2 hb (Nat.ne_of_gt (Nat.lt_trans h.lb h.lt)) (Nat.ne_of_gt (Nat.lt_trans h.lB h.lt)), h.lt, h.lb, h.lB⟩
theorem ND.set {w wr : World} {b B A2 : Nat} {t : TypeId} {zs cs : Array Value} {c : Cs} (h : ND w b B A2 t zs cs c wr) (i : Nat) (v : Value) : ND w b B A2 t zs (cs.setIfInBounds i v) c (wr.setCell ⟨A2, i, none⟩ v) :=
  ⟨h.bu.sn i v (Nat.le_of_lt h.lt), h.rd.sn i v (Nat.ne_of_lt (Nat.lt_trans h.lb h.lt)) (Nat.ne_of_lt (Nat.lt_trans h.lB h.lt)), by
    unfold Blk
    rw [Below.heap_setCell wr ⟨A2, i, none⟩ v w.heap.size (Nat.ne_of_lt h.lt)]
    exact h.a, But.heap' h.a2, h.lt, h.lb, h.lB⟩
theorem ND.new {w w1 : World} {b B : Nat} {t : TypeId} {zs cs : Array Value} {c : Cs} (hb : Bu2 b B (w.alloc (.cells zs t)) w1) (hr : RdC w1 b B c) (lb : b < w.heap.size) (lB : B < w.heap.size) : ND w b B w1.heap.size t zs cs c (w1.alloc (.cells cs t)) :=
  ⟨(((Bu2.refl b B w).al _).trans hb).al _, hr.al _, ((blk_new w zs t).bu2 hb (Nat.ne_of_gt lb) (Nat.ne_of_gt lB)).below ((Below.refl _ _).alloc (Nat.le_refl _) _) (by have := hb.size; simp at this; omega), blk_new _ _ _, by have := hb.size; simp at this; omega, lb, lB⟩
theorem ND.s4_0 {w wr : World} {b B A2 : Nat} {t : TypeId} {zs : Array Value} {c : Cs} {a0 a1 a2 a3 : Value} (h : ND w b B A2 t zs #[a0, a1, a2, a3] c wr) (v : Value) : ND w b B A2 t zs #[v, a1, a2, a3] c (wr.setCell ⟨A2, 0, none⟩ v) := h.set 0 v
theorem ND.s4_1 {w wr : World} {b B A2 : Nat} {t : TypeId} {zs : Array Value} {c : Cs} {a0 a1 a2 a3 : Value} (h : ND w b B A2 t zs #[a0, a1, a2, a3] c wr) (v : Value) : ND w b B A2 t zs #[a0, v, a2, a3] c (wr.setCell ⟨A2, 1, none⟩ v) := h.set 1 v
theorem ND.s4_2 {w wr : World} {b B A2 : Nat} {t : TypeId} {zs : Array Value} {c : Cs} {a0 a1 a2 a3 : Value} (h : ND w b B A2 t zs #[a0, a1, a2, a3] c wr) (v : Value) : ND w b B A2 t zs #[a0, a1, v, a3] c (wr.setCell ⟨A2, 2, none⟩ v) := h.set 2 v
theorem ND.s4_3 {w wr : World} {b B A2 : Nat} {t : TypeId} {zs : Array Value} {c : Cs} {a0 a1 a2 a3 : Value} (h : ND w b B A2 t zs #[a0, a1, a2, a3] c wr) (v : Value) : ND w b B A2 t zs #[a0, a1, a2, v] c (wr.setCell ⟨A2, 3, none⟩ v) := h.set 3 v
theorem ND.s11_0 {w wr : World} {b B A2 : Nat} {t : TypeId} {zs : Array Value} {c : Cs} {a0 a1 a2 a3 a4 a5 a6 a7 a8 a9 a10 : Value} (h : ND w b B A2 t zs #[a0, a1, a2, a3, a4, a5, a6, a7, a8, a9, a10] c wr) (v : Value) : ND w b B A2 t zs #[v, a1, a2, a3, a4, a5, a6, a7, a8, a9, a10] c (wr.setCell ⟨A2, 0, none⟩ v) := h.set 0 v
theorem ND.s11_1 {w wr : World} {b B A2 : Nat} {t : TypeId} {zs : Array Value} {c : Cs} {a0 a1 a2 a3 a4 a5 a6 a7 a8 a9 a10 : Value} (h : ND w b B A2 t zs #[a0, a1, a2, a3, a4, a5, a6, a7, a8, a9, a10] c wr) (v : Value) : ND w b B A2 t zs #[a0, v, a2, a3, a4, a5, a6, a7, a8, a9, a10] c (wr.setCell ⟨A2, 1, none⟩ v) := h.set 1 v
theorem ND.s11_2 {w wr : World} {b B A2 : Nat} {t : TypeId} {zs : Array Value} {c : Cs} {a0 a1 a2 a3 a4 a5 a6 a7 a8 a9 a10 : Value} (h : ND w b B A2 t zs #[a0, a1, a2, a3, a4, a5, a6, a7, a8, a9, a10] c wr) (v : Value) : ND w b B A2 t zs #[a0, a1, v, a3, a4, a5, a6, a7, a8, a9, a10] c (wr.setCell ⟨A2, 2, none⟩ v) := h.set 2 v
theorem ND.s11_3 {w wr : World} {b B A2 : Nat} {t : TypeId} {zs : Array Value} {c : Cs} {a0 a1 a2 a3 a4 a5 a6 a7 a8 a9 a10 : Value} (h : ND w b B A2 t zs #[a0, a1, a2, a3, a4, a5, a6, a7, a8, a9, a10] c wr) (v : Value) : ND w b B A2 t zs #[a0, a1, a2, v, a4, a5, a6, a7, a8, a9, a10] c (wr.setCell ⟨A2, 3, none⟩ v) := h.set 3 v
theorem ND.s11_4 {w wr : World} {b B A2 : Nat} {t : TypeId} {zs : Array Value} {c : Cs} {a0 a1 a2 a3 a4 a5 a6 a7 a8 a9 a10 : Value} (h : ND w b B A2 t zs #[a0, a1, a2, a3, a4, a5, a6, a7, a8, a9, a10] c wr) (v : Value) : ND w b B A2 t zs #[a0, a1, a2, a3, v, a5, a6, a7, a8, a9, a10] c (wr.setCell ⟨A2, 4, none⟩ v) := h.set 4 v
theorem ND.s11_5 {w wr : World} {b B A2 : Nat} {t : TypeId} {zs : Array Value} {c : Cs} {a0 a1 a2 a3 a4 a5 a6 a7 a8 a9 a10 : Value} (h : ND w b B A2 t zs #[a0, a1, a2, a3, a4, a5, a6, a7, a8, a9, a10] c wr) (v : Value) : ND w b B A2 t zs #[a0, a1, a2, a3, a4, v, a6, a7, a8, a9, a10] c (wr.setCell ⟨A2, 5, none⟩ v) := h.set 5 v
theorem ND.s11_6 {w wr : World} {b B A2 : Nat} {t : TypeId} {zs : Array Value} {c : Cs} {a0 a1 a2 a3 a4 a5 a6 a7 a8 a9 a10 : Value} (h : ND w b B A2 t zs #[a0, a1, a2, a3, a4, a5, a6, a7, a8, a9, a10] c wr) (v : Value) : ND w b B A2 t zs #[a0, a1, a2, a3, a4, a5, v, a7, a8, a9, a10] c (wr.setCell ⟨A2, 6, none⟩ v) := h.set 6 v
theorem ND.s11_7 {w wr : World} {b B A2 : Nat} {t : TypeId} {zs : Array Value} {c : Cs} {a0 a1 a2 a3 a4 a5 a6 a7 a8 a9 a10 : Value} (h : ND w b B A2 t zs #[a0, a1, a2, a3, a4, a5, a6, a7, a8, a9, a10] c wr) (v : Value) : ND w b B A2 t zs #[a0, a1, a2, a3, a4, a5, a6, v, a8, a9, a10] c (wr.setCell ⟨A2, 7, none⟩ v) := h.set 7 v
theorem ND.s11_8 {w wr : World} {b B A2 : Nat} {t : TypeId} {zs : Array Value} {c : Cs} {a0 a1 a2 a3 a4 a5 a6 a7 a8 a9 a10 : Value} (h : ND w b B A2 t zs #[a0, a1, a2, a3, a4, a5, a6, a7, a8, a9, a10] c wr) (v : Value) : ND w b B A2 t zs #[a0, a1, a2, a3, a4, a5, a6, a7, v, a9, a10] c (wr.setCell ⟨A2, 8, none⟩ v) := h.set 8 v
theorem ND.s11_9 {w wr : World} {b B A2 : Nat} {t : TypeId} {zs : Array Value} {c : Cs} {a0 a1 a2 a3 a4 a5 a6 a7 a8 a9 a10 : Value} (h : ND w b B A2 t zs #[a0, a1, a2, a3, a4, a5, a6, a7, a8, a9, a10] c wr) (v : Value) : ND w b B A2 t zs #[a0, a1, a2, a3, a4, a5, a6, a7, a8, v, a10] c (wr.setCell ⟨A2, 9, none⟩ v) := h.set 9 v
theorem ND.s11_10 {w wr : World} {b B A2 : Nat} {t : TypeId} {zs : Array Value} {c : Cs} {a0 a1 a2 a3 a4 a5 a6 a7 a8 a9 a10 : Value} (h : ND w b B A2 t zs #[a0, a1, a2, a3, a4, a5, a6, a7, a8, a9, a10] c wr) (v : Value) : ND w b B A2 t zs #[a0, a1, a2, a3, a4, a5, a6, a7, a8, a9, v] c (wr.setCell ⟨A2, 10, none⟩ v) := h.set 10 v

/-- a flow that is read -/
def rdFlow (c : Cs) : Fl × Cs := (⟨c.num.1, c.num.2.num.1, ⟨c.num.2.num.2.text.1.toArray⟩, c.num.2.num.2.text.2.truth.1⟩, c.num.2.num.2.text.2.truth.2)
theorem rdFlow_len (c : Cs) : (rdFlow c).2.r.l.length ≤ c.r.l.length := Nat.le_trans (Cs.truth_len _) (Nat.le_trans (Cs.text_len _) (Nat.le_trans (Cs.num_len _) (Cs.num_len _)))
theorem Cs.num_bad (c : Cs) (h : c.num.2.bad = false) : c.bad = false := by simp only [Cs.num, Bool.or_eq_false_iff] at h; exact h.1
theorem Cs.text_bad (c : Cs) (h : c.text.2.bad = false) : c.bad = false := by simp only [Cs.text, Bool.or_eq_false_iff] at h; exact h.1
theorem Cs.small_bad (c : Cs) (h : c.small.2.bad = false) : c.num.2.bad = false ∧ c.num.1 ≤ 255 := by simp only [Cs.small, Bool.or_eq_false_iff, decide_eq_false_iff_not] at h; exact ⟨h.1, by omega⟩
theorem Cs.truth_bad (c : Cs) (h : c.truth.2.bad = false) : c.num.2.bad = false ∧ c.num.1 ≤ 1 := by simp only [Cs.truth, Bool.or_eq_false_iff, decide_eq_false_iff_not] at h; exact ⟨h.1, by omega⟩
theorem rdFlow_eats (c : Cs) (h : (rdFlow c).2.bad = false) : (rdFlow c).2.r.l.length < c.r.l.length := by
  have h1 := Cs.num_bad _ (Cs.text_bad _ (Cs.num_bad _ (Cs.truth_bad _ h).1))
  exact Nat.lt_of_le_of_lt (Nat.le_trans (Cs.truth_len _) (Nat.le_trans (Cs.text_len _) (Cs.num_len _))) (Cs.num_eats c h1)
def fcell (v : Fl) : List Value := [.int .i64 v.fr, .int .i64 v.to, .string v.iff, .bool v.els]
set_option maxRecDepth 100000 in
set_option maxHeartbeats 4000000 in
theorem flow_rd (b B : Nat) (c : Cs) (w : World) (h : RdC w b B c) (hl : c.r.l.length ≤ 10000) :
    Calls Tryd.prog 27 #[pt B] w fun e w' => e = .returned (.agg #[.int .i64 (rdFlow c).1.fr, .int .i64 (rdFlow c).1.to, .string (rdFlow c).1.iff, .bool (rdFlow c).1.els]) ∧ Bu2 b B w w' ∧ RdC w' b B (rdFlow c).2 := by
  have lt1 := Two.lt h.wr
  have lt2 := h.cr.lt
  have R0 := Lib.hid (h.al (.cells #[.int .i64 0, .int .i64 0, .string ⟨#[]⟩, .bool false] 35))
  have l1 := c.num_len
  have l2 := c.num.2.num_len
  have l3 := c.num.2.num.2.text_len
  unfold rdFlow
  simp only
  have T1 := Lib.hid (fun (w' : World) (h : RdC w' b B c) => num_rd b B c w' h hl)
  obtain ⟨⟨n1, c1⟩, q1⟩ : ∃ q, c.num = q := ⟨_, rfl⟩
  rw [q1] at T1 l1 l2 l3 ⊢
  simp only at T1 l1 l2 l3 ⊢
  have T2 := Lib.hid (fun (w' : World) (h : RdC w' b B c1) => num_rd b B c1 w' h (by omega))
  obtain ⟨⟨n2, c2⟩, q2⟩ : ∃ q, c1.num = q := ⟨_, rfl⟩
  rw [q2] at T2 l2 l3 ⊢
  simp only at T2 l2 l3 ⊢
  have T3 := Lib.hid (fun (w' : World) (h : RdC w' b B c2) => text_rd b B c2 w' h (by omega))
  obtain ⟨⟨x3, c3⟩, q3⟩ : ∃ q, c2.text = q := ⟨_, rfl⟩
  rw [q3] at T3 l3 ⊢
  simp only at T3 l3 ⊢
  have T4 := Lib.hid (fun (w' : World) (h : RdC w' b B c3) => truth_rd b B c3 w' h (by omega))
  obtain ⟨⟨x4, c4⟩, q4⟩ : ∃ q, c3.truth = q := ⟨_, rfl⟩
  rw [q4] at T4 ⊢
  simp only at T4 ⊢
  clear h hl l1 l2 l3 q1 q2 q3 q4
  go_enter Tryd.func27, Tryd.ntmps27
  go_wp2_with (first
    | (go_at_call 44; with_reducible refine (T1.out _ R0.out).mono ?_; rintro e w1 ⟨rfl, hb1, h1⟩)
    | (go_at_call 44; with_reducible refine (T2.out _ h1).mono ?_; rintro e w2 ⟨rfl, hb2, h2⟩)
    | (go_at_call 22; with_reducible refine (T3.out _ h2).mono ?_; rintro e w3 ⟨rfl, hb3, h3⟩; have N3 := Lib.hid (ND.new (cs := #[.int .i64 n1, .int .i64 n2, Wr.str x3, .bool false]) ((hb1.trans hb2).trans hb3) h3 lt1 lt2))
    | (go_at_call 46; with_reducible refine (T4.out _ N3.out.rd).mono ?_; rintro e w4 ⟨rfl, hb4, h4⟩; have N4 := Lib.hid (N3.out.step hb4 h4); have z0 := N4.out.a2.c 0; have z1 := N4.out.a2.c 1; have z2 := N4.out.a2.c 2; have z3 := N4.out.a2.c 3; have g3 := N4.out.a2.fz 3; have y0 := N4.out.a.c 0; have y1 := N4.out.a.c 1; have y2 := N4.out.a.c 2; have y3 := N4.out.a.c 3; have f0 := N4.out.a.fz 0; have f1 := N4.out.a.fz 1; have f2 := N4.out.a.fz 2; have f3 := N4.out.a.fz 3; have hn := N4.out.lt))
  refine bodyPost_ret (v := .agg #[.int .i64 n1, .int .i64 n2, Wr.str x3, .bool x4]) (by simp [results, Tryd.results27, go_sem, *]) rfl ⟨rfl, ?_, ?_⟩
  · exact ((((N4.out.s4_3 _).bu.sn _ _ (Nat.le_refl _)).sn _ _ (Nat.le_refl _)).sn _ _ (Nat.le_refl _)).sn _ _ (Nat.le_refl _)
  · exact ((((N4.out.s4_3 _).rd.sn _ _ (Nat.ne_of_lt lt1) (Nat.ne_of_lt lt2)).sn _ _ (Nat.ne_of_lt lt1) (Nat.ne_of_lt lt2)).sn _ _ (Nat.ne_of_lt lt1) (Nat.ne_of_lt lt2)).sn _ _ (Nat.ne_of_lt lt1) (Nat.ne_of_lt lt2)
/-- a node that is read -/
structure PNod where
  d : Nd
  vs : List Va
  bs : List ByteArray
def rdHead (c : Cs) : Nd × Cs := (⟨⟨c.text.1.toArray⟩, c.text.2.small.1, (c.text.2.small.2.num.1 : Int) - 1, (c.text.2.small.2.num.2.num.1 : Int) - 1, c.text.2.small.2.num.2.num.2.small.1, ⟨c.text.2.small.2.num.2.num.2.small.2.text.1.toArray⟩, ⟨c.text.2.small.2.num.2.num.2.small.2.text.2.text.1.toArray⟩, ⟨c.text.2.small.2.num.2.num.2.small.2.text.2.text.2.text.1.toArray⟩, c.text.2.small.2.num.2.num.2.small.2.text.2.text.2.text.2.truth.1⟩, c.text.2.small.2.num.2.num.2.small.2.text.2.text.2.text.2.truth.2)
def rdNode (c : Cs) : PNod × Cs := (⟨(rdHead c).1, (Cs.list rdVar (rdHead c).2).1, (Cs.list rdStr (Cs.list rdVar (rdHead c).2).2).1⟩, (Cs.list rdStr (Cs.list rdVar (rdHead c).2).2).2)
theorem rdHead_len (c : Cs) : (rdHead c).2.r.l.length ≤ c.r.l.length := by
  have h0 := Cs.text_len (c)
  have h1 := Cs.small_len (c.text.2)
  have h2 := Cs.num_len (c.text.2.small.2)
  have h3 := Cs.num_len (c.text.2.small.2.num.2)
  have h4 := Cs.small_len (c.text.2.small.2.num.2.num.2)
  have h5 := Cs.text_len (c.text.2.small.2.num.2.num.2.small.2)
  have h6 := Cs.text_len (c.text.2.small.2.num.2.num.2.small.2.text.2)
  have h7 := Cs.text_len (c.text.2.small.2.num.2.num.2.small.2.text.2.text.2)
  have h8 := Cs.truth_len (c.text.2.small.2.num.2.num.2.small.2.text.2.text.2.text.2)
  show (c.text.2.small.2.num.2.num.2.small.2.text.2.text.2.text.2.truth.2).r.l.length ≤ c.r.l.length
  omega
theorem rdNode_snd (c : Cs) : (rdNode c).2 = (Cs.list rdStr (Cs.list rdVar (rdHead c).2).2).2 := by simp only [rdNode]
theorem rdNode_len (c : Cs) : (rdNode c).2.r.l.length ≤ c.r.l.length := by
  have h1 := Cs.list_len rdStr_len (Cs.list rdVar (rdHead c).2).2
  have h2 := Cs.list_len rdVar_len (rdHead c).2
  have h3 := rdHead_len c
  rw [rdNode_snd]
  exact Nat.le_trans h1 (Nat.le_trans h2 h3)
theorem rep_bad {α : Type} {one : Cs → α × Cs} (h : ∀ c, (one c).2.bad = false → c.bad = false) : ∀ n c, (rep one n c).2.bad = false → c.bad = false
  | 0, c, hb => hb
  | n + 1, c, hb => by
    rw [rep] at hb
    split at hb
    · exact hb
    · exact h c (rep_bad h n _ hb)
theorem Cs.list_bad {α : Type} {one : Cs → α × Cs} (h : ∀ c, (one c).2.bad = false → c.bad = false) (c : Cs) (hb : (Cs.list one c).2.bad = false) : c.num.2.bad = false := rep_bad h _ _ hb
theorem rdVar_bad (c : Cs) (h : (rdVar c).2.bad = false) : c.bad = false := by simp only [rdVar, Bool.or_eq_false_iff] at h; exact Cs.text_bad _ h.1
theorem rdStr_bad (c : Cs) (h : (rdStr c).2.bad = false) : c.bad = false := Cs.text_bad _ h
theorem rdHead_bad (c : Cs) (h : (rdHead c).2.bad = false) : c.text.2.bad = false := by
  have h9 := (Cs.truth_bad _ h).1
  exact Cs.num_bad _ (Cs.small_bad _ (Cs.num_bad _ (Cs.num_bad _ (Cs.num_bad _ (Cs.small_bad _ (Cs.text_bad _ (Cs.text_bad _ (Cs.text_bad _ (Cs.num_bad _ h9))))).1)))).1
theorem rdNode_eats (c : Cs) (h : (rdNode c).2.bad = false) : (rdNode c).2.r.l.length < c.r.l.length := by
  rw [rdNode_snd] at h
  have h1 := rdHead_bad c (Cs.num_bad _ (Cs.list_bad rdVar_bad _ (Cs.num_bad _ (Cs.list_bad rdStr_bad _ h))))
  have h2 : (rdHead c).2.r.l.length ≤ c.text.2.r.l.length := by
    have h1 := Cs.small_len (c.text.2)
    have h2 := Cs.num_len (c.text.2.small.2)
    have h3 := Cs.num_len (c.text.2.small.2.num.2)
    have h4 := Cs.small_len (c.text.2.small.2.num.2.num.2)
    have h5 := Cs.text_len (c.text.2.small.2.num.2.num.2.small.2)
    have h6 := Cs.text_len (c.text.2.small.2.num.2.num.2.small.2.text.2)
    have h7 := Cs.text_len (c.text.2.small.2.num.2.num.2.small.2.text.2.text.2)
    have h8 := Cs.truth_len (c.text.2.small.2.num.2.num.2.small.2.text.2.text.2.text.2)
    show (c.text.2.small.2.num.2.num.2.small.2.text.2.text.2.text.2.truth.2).r.l.length ≤ c.text.2.r.l.length
    omega
  have h3 := Cs.list_len rdStr_len (Cs.list rdVar (rdHead c).2).2
  have h4 := Cs.list_len rdVar_len (rdHead c).2
  have h5 := c.text_eats h1
  rw [rdNode_snd]
  exact Nat.lt_of_le_of_lt (Nat.le_trans h3 (Nat.le_trans h4 h2)) h5
set_option maxRecDepth 100000 in
set_option maxHeartbeats 16000000 in
theorem node_rd (b B : Nat) (c : Cs) (w : World) (h : RdC w b B c) (hl : c.r.l.length ≤ 10000) :
    Calls Tryd.prog 25 #[pt B] w fun e w' => ∃ o1 p1 o2 p2, e = .returned (.agg (nodeC (rdNode c).1.d (.slice o1 (rdNode c).1.vs.length p1) (.slice o2 (rdNode c).1.bs.length p2))) ∧ (rdNode c).1.vs.length ≤ p1 ∧ (rdNode c).1.bs.length ≤ p2 ∧ w'.ownsRow w.heap.size 49 4 (.slice o1 (rdNode c).1.vs.length p1) (rdNode c).1.vs.length ((rdNode c).1.vs.flatMap vcell) ∧ w'.ownsRow w.heap.size 9 1 (.slice o2 (rdNode c).1.bs.length p2) (rdNode c).1.bs.length ((rdNode c).1.bs.flatMap scell) ∧ Bu2 b B w w' ∧ RdC w' b B (rdNode c).2 := by
  have lt1 := Two.lt h.wr
  have lt2 := h.cr.lt
  have R0 := Lib.hid (h.al (.cells #[.string ⟨#[]⟩, .int .u8 0, .int .i64 0, .int .i64 0, .int .u8 0, .string ⟨#[]⟩, .string ⟨#[]⟩, .string ⟨#[]⟩, .bool false, .slice none 0 0, .slice none 0 0] 41))
  unfold rdNode rdHead
  simp only
  have l0 := hl
  have T1 := Lib.hid (fun (w' : World) (h : RdC w' b B c) => text_rd b B c w' h l0)
  have l1 : c.text.2.r.l.length ≤ 10000 := Nat.le_trans c.text_len l0
  obtain ⟨⟨x1, c1⟩, q1⟩ : ∃ q, c.text = q := ⟨_, rfl⟩
  rw [q1] at T1 l1 ⊢
  simp only at T1 l1 ⊢
  have T2 := Lib.hid (fun (w' : World) (h : RdC w' b B c1) => small_rd b B c1 w' h l1)
  have l2 : c1.small.2.r.l.length ≤ 10000 := Nat.le_trans c1.small_len l1
  obtain ⟨⟨n2, c2⟩, q2⟩ : ∃ q, c1.small = q := ⟨_, rfl⟩
  rw [q2] at T2 l2 ⊢
  simp only at T2 l2 ⊢
  have T3 := Lib.hid (fun (w' : World) (h : RdC w' b B c2) => num_rd b B c2 w' h l2)
  have l3 : c2.num.2.r.l.length ≤ 10000 := Nat.le_trans c2.num_len l2
  have e3 := c2.num_le
  obtain ⟨⟨n3, c3⟩, q3⟩ : ∃ q, c2.num = q := ⟨_, rfl⟩
  rw [q3] at T3 l3 e3 ⊢
  simp only at T3 l3 e3 ⊢
  have T4 := Lib.hid (fun (w' : World) (h : RdC w' b B c3) => num_rd b B c3 w' h l3)
  have l4 : c3.num.2.r.l.length ≤ 10000 := Nat.le_trans c3.num_len l3
  have e4 := c3.num_le
  obtain ⟨⟨n4, c4⟩, q4⟩ : ∃ q, c3.num = q := ⟨_, rfl⟩
  rw [q4] at T4 l4 e4 ⊢
  simp only at T4 l4 e4 ⊢
  have T5 := Lib.hid (fun (w' : World) (h : RdC w' b B c4) => small_rd b B c4 w' h l4)
  have l5 : c4.small.2.r.l.length ≤ 10000 := Nat.le_trans c4.small_len l4
  obtain ⟨⟨n5, c5⟩, q5⟩ : ∃ q, c4.small = q := ⟨_, rfl⟩
  rw [q5] at T5 l5 ⊢
  simp only at T5 l5 ⊢
  have T6 := Lib.hid (fun (w' : World) (h : RdC w' b B c5) => text_rd b B c5 w' h l5)
  have l6 : c5.text.2.r.l.length ≤ 10000 := Nat.le_trans c5.text_len l5
  obtain ⟨⟨x6, c6⟩, q6⟩ : ∃ q, c5.text = q := ⟨_, rfl⟩
  rw [q6] at T6 l6 ⊢
  simp only at T6 l6 ⊢
  have T7 := Lib.hid (fun (w' : World) (h : RdC w' b B c6) => text_rd b B c6 w' h l6)
  have l7 : c6.text.2.r.l.length ≤ 10000 := Nat.le_trans c6.text_len l6
  obtain ⟨⟨x7, c7⟩, q7⟩ : ∃ q, c6.text = q := ⟨_, rfl⟩
  rw [q7] at T7 l7 ⊢
  simp only at T7 l7 ⊢
  have T8 := Lib.hid (fun (w' : World) (h : RdC w' b B c7) => text_rd b B c7 w' h l7)
  have l8 : c7.text.2.r.l.length ≤ 10000 := Nat.le_trans c7.text_len l7
  obtain ⟨⟨x8, c8⟩, q8⟩ : ∃ q, c7.text = q := ⟨_, rfl⟩
  rw [q8] at T8 l8 ⊢
  simp only at T8 l8 ⊢
  have T9 := Lib.hid (fun (w' : World) (h : RdC w' b B c8) => truth_rd b B c8 w' h l8)
  have l9 : c8.truth.2.r.l.length ≤ 10000 := Nat.le_trans c8.truth_len l8
  obtain ⟨⟨x9, c9⟩, q9⟩ : ∃ q, c8.truth = q := ⟨_, rfl⟩
  rw [q9] at T9 l9 ⊢
  simp only at T9 l9 ⊢
  have T10 := Lib.hid (fun (w' : World) (h : RdC w' b B c9) => vars_rd b B c9 w' h l9)
  have l10 : (Cs.list rdVar c9).2.r.l.length ≤ 10000 := Nat.le_trans (Cs.list_len rdVar_len c9) l9
  obtain ⟨⟨vs, c10⟩, q10⟩ : ∃ q, Cs.list rdVar c9 = q := ⟨_, rfl⟩
  rw [q10] at T10 l10 ⊢
  simp only at T10 l10 ⊢
  have T11 := Lib.hid (fun (w' : World) (h : RdC w' b B c10) => list_str b B c10 w' h l10)
  obtain ⟨⟨bs, c11⟩, q11⟩ : ∃ q, Cs.list rdStr c10 = q := ⟨_, rfl⟩
  rw [q11] at T11 ⊢
  simp only at T11 ⊢
  clear h hl l0 l1 l2 l3 l4 l5 l6 l7 l8 l9 l10 q1 q2 q3 q4 q5 q6 q7 q8 q9 q10 q11
  go_enter Tryd.func25, Tryd.ntmps25
  go_wp2_with (first
    | (go_at_call 22; with_reducible refine (T1.out _ R0.out).mono ?_; rintro e w1 ⟨rfl, hb1, h1⟩)
    | (go_at_call 45; with_reducible refine (T2.out _ h1).mono ?_; rintro e w2 ⟨rfl, hb2, h2⟩; have N2 := Lib.hid (ND.new (cs := #[Wr.str x1, .int .u8 n2, .int .i64 0, .int .i64 0, .int .u8 0, .string ⟨#[]⟩, .string ⟨#[]⟩, .string ⟨#[]⟩, .bool false, .slice none 0 0, .slice none 0 0]) (hb1.trans hb2) h2 lt1 lt2); have sz := N2.out.lt)
    | (go_at_call 44; with_reducible refine (T3.out _ N2.out.rd).mono ?_; rintro e w3 ⟨rfl, hb3, h3⟩; have N3 := Lib.hid (N2.out.step hb3 h3); clear hb3 h3)
    | (go_at_call 44; with_reducible refine (T4.out _ N3.out.rd).mono ?_; rintro e w4 ⟨rfl, hb4, h4⟩; have N4 := Lib.hid (N3.out.step hb4 h4); have a2 := N4.out.a2.c 2; have a3 := N4.out.a2.c 3; have g2 := N4.out.a2.fz 2; have g3 := N4.out.a2.fz 3; clear hb4 h4)
    | (go_at_call 45; with_reducible refine (T5.out _ ((N4.out.s11_2 _).s11_3 _).rd).mono ?_; rintro e w5 ⟨rfl, hb5, h5⟩; have N5 := Lib.hid (((N4.out.s11_2 _).s11_3 _).step hb5 h5); have a4 := N5.out.a2.c 4; have g4 := N5.out.a2.fz 4; clear hb5 h5)
    | (go_at_call 22; with_reducible refine (T6.out _ (N5.out.s11_4 _).rd).mono ?_; rintro e w6 ⟨rfl, hb6, h6⟩; have N6 := Lib.hid ((N5.out.s11_4 _).step hb6 h6); clear hb6 h6)
    | (go_at_call 22; with_reducible refine (T7.out _ N6.out.rd).mono ?_; rintro e w7 ⟨rfl, hb7, h7⟩; have N7 := Lib.hid (N6.out.step hb7 h7); clear hb7 h7)
    | (go_at_call 22; with_reducible refine (T8.out _ N7.out.rd).mono ?_; rintro e w8 ⟨rfl, hb8, h8⟩; have N8 := Lib.hid (N7.out.step hb8 h8); have a5 := N8.out.a2.c 5; have a6 := N8.out.a2.c 6; have a7 := N8.out.a2.c 7; have g5 := N8.out.a2.fz 5; have g6 := N8.out.a2.fz 6; have g7 := N8.out.a2.fz 7; clear hb8 h8)
    | (go_at_call 46; with_reducible refine (T9.out _ (((N8.out.s11_5 _).s11_6 _).s11_7 _).rd).mono ?_; rintro e w9 ⟨rfl, hb9, h9⟩; have N9 := Lib.hid ((((N8.out.s11_5 _).s11_6 _).s11_7 _).step hb9 h9); have a8 := N9.out.a2.c 8; have g8 := N9.out.a2.fz 8; clear hb9 h9)
    | (go_at_call 23; with_reducible refine (T10.out _ (N9.out.s11_8 _).rd).mono ?_; rintro e w10 ⟨u, rfl, ho10, hb10, h10⟩; obtain ⟨o1, p1, rfl, hp1⟩ := ownC_form ho10; have N10 := Lib.hid ((N9.out.s11_8 _).step hb10 h10); have O10 := Lib.hid (ownC_base ho10 (N9.out.s11_8 _).bu.size); have a9 := N10.out.a2.c 9; have g9 := N10.out.a2.fz 9; clear hb10 h10 ho10)
    | (go_at_call 47; with_reducible refine (T11.out _ (N10.out.s11_9 _).rd).mono ?_; rintro e w11 ⟨v, rfl, ho11, hb11, h11⟩; obtain ⟨o2, p2, rfl, hp2⟩ := ownC_form ho11; have N11 := Lib.hid ((N10.out.s11_9 _).step hb11 h11); have P11 := Lib.hid (ownC_base ho11 (N10.out.s11_9 _).bu.size); have O11 := Lib.hid (ownC_bu2 (ownC_sn (o := 9) (v := .slice o1 vs.length p1) O10.out (ownC_ne O10.out N10.out.a2 (by decide))) hb11 lt1 lt2); clear hb11 h11 ho11; have b0 := N11.out.a2.c 0; have b1 := N11.out.a2.c 1; have b2 := N11.out.a2.c 2; have b3 := N11.out.a2.c 3; have b4 := N11.out.a2.c 4; have b5 := N11.out.a2.c 5; have b6 := N11.out.a2.c 6; have b7 := N11.out.a2.c 7; have b8 := N11.out.a2.c 8; have b9 := N11.out.a2.c 9; have b10 := N11.out.a2.c 10; have k10 := N11.out.a2.fz 10; have y0 := N11.out.a.c 0; have y1 := N11.out.a.c 1; have y2 := N11.out.a.c 2; have y3 := N11.out.a.c 3; have y4 := N11.out.a.c 4; have y5 := N11.out.a.c 5; have y6 := N11.out.a.c 6; have y7 := N11.out.a.c 7; have y8 := N11.out.a.c 8; have y9 := N11.out.a.c 9; have y10 := N11.out.a.c 10; have f0 := N11.out.a.fz 0; have f1 := N11.out.a.fz 1; have f2 := N11.out.a.fz 2; have f3 := N11.out.a.fz 3; have f4 := N11.out.a.fz 4; have f5 := N11.out.a.fz 5; have f6 := N11.out.a.fz 6; have f7 := N11.out.a.fz 7; have f8 := N11.out.a.fz 8; have f9 := N11.out.a.fz 9; have f10 := N11.out.a.fz 10))
  refine bodyPost_ret (v := .agg #[Wr.str x1, .int .u8 n2, .int .i64 ((n3 : Int) - 1), .int .i64 ((n4 : Int) - 1), .int .u8 n5, Wr.str x6, Wr.str x7, Wr.str x8, .bool x9, .slice o1 vs.length p1, .slice o2 bs.length p2]) (by simp [results, Tryd.results25, go_sem, *]) rfl ⟨_, _, _, _, rfl, hp1, hp2, ?_, ?_, ?_, ?_⟩
  · exact ownC_sn (ownC_sn (ownC_sn (ownC_sn (ownC_sn (ownC_sn (ownC_sn (ownC_sn (ownC_sn (ownC_sn (ownC_sn (ownC_sn O11.out (ownC_ne O11.out N11.out.a2 (by decide))) (ownC_ne O11.out N11.out.a (by decide))) (ownC_ne O11.out N11.out.a (by decide))) (ownC_ne O11.out N11.out.a (by decide))) (ownC_ne O11.out N11.out.a (by decide))) (ownC_ne O11.out N11.out.a (by decide))) (ownC_ne O11.out N11.out.a (by decide))) (ownC_ne O11.out N11.out.a (by decide))) (ownC_ne O11.out N11.out.a (by decide))) (ownC_ne O11.out N11.out.a (by decide))) (ownC_ne O11.out N11.out.a (by decide))) (ownC_ne O11.out N11.out.a (by decide))
  · exact ownC_sn (ownC_sn (ownC_sn (ownC_sn (ownC_sn (ownC_sn (ownC_sn (ownC_sn (ownC_sn (ownC_sn (ownC_sn (ownC_sn P11.out (ownC_ne P11.out N11.out.a2 (by decide))) (ownC_ne P11.out N11.out.a (by decide))) (ownC_ne P11.out N11.out.a (by decide))) (ownC_ne P11.out N11.out.a (by decide))) (ownC_ne P11.out N11.out.a (by decide))) (ownC_ne P11.out N11.out.a (by decide))) (ownC_ne P11.out N11.out.a (by decide))) (ownC_ne P11.out N11.out.a (by decide))) (ownC_ne P11.out N11.out.a (by decide))) (ownC_ne P11.out N11.out.a (by decide))) (ownC_ne P11.out N11.out.a (by decide))) (ownC_ne P11.out N11.out.a (by decide))
  · exact ((((((((((((N11.out.s11_10 _).bu).sn _ _ (Nat.le_refl _)).sn _ _ (Nat.le_refl _)).sn _ _ (Nat.le_refl _)).sn _ _ (Nat.le_refl _)).sn _ _ (Nat.le_refl _)).sn _ _ (Nat.le_refl _)).sn _ _ (Nat.le_refl _)).sn _ _ (Nat.le_refl _)).sn _ _ (Nat.le_refl _)).sn _ _ (Nat.le_refl _)).sn _ _ (Nat.le_refl _)
  · exact ((((((((((((N11.out.s11_10 _).rd).sn _ _ (Nat.ne_of_lt lt1) (Nat.ne_of_lt lt2)).sn _ _ (Nat.ne_of_lt lt1) (Nat.ne_of_lt lt2)).sn _ _ (Nat.ne_of_lt lt1) (Nat.ne_of_lt lt2)).sn _ _ (Nat.ne_of_lt lt1) (Nat.ne_of_lt lt2)).sn _ _ (Nat.ne_of_lt lt1) (Nat.ne_of_lt lt2)).sn _ _ (Nat.ne_of_lt lt1) (Nat.ne_of_lt lt2)).sn _ _ (Nat.ne_of_lt lt1) (Nat.ne_of_lt lt2)).sn _ _ (Nat.ne_of_lt lt1) (Nat.ne_of_lt lt2)).sn _ _ (Nat.ne_of_lt lt1) (Nat.ne_of_lt lt2)).sn _ _ (Nat.ne_of_lt lt1) (Nat.ne_of_lt lt2)).sn _ _ (Nat.ne_of_lt lt1) (Nat.ne_of_lt lt2)

end Go.Proofs.YtblebjgjomamdaaDoor
