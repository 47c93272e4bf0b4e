/- What codec.Decode returns for bytes with their sum behind them. Conditions: the tables as laid; at most 4000 bytes. -/
import Derived.Test.YtblebjgjomamdaaDoorCd
import Derived.Test.YtblebjgjomamdaaDoorOrd
namespace Go.Proofs.YtblebjgjomamdaaDoor
open Go.RowKit Go.Ow Go.Wi

/-- the world while the sums are compared -/
structure SS (w : World) (W : World) : Prop where
  below : Below w.heap.size w W
  a : Blk W w.heap.size zP 28
theorem SS.step {w W W' : World} (h : SS w W) (hb : Below W.heap.size W W') : SS w W' := ⟨below_step h.below hb, h.a.below hb h.a.lt⟩
/-- the world while the process is read -/
structure DS (w : World) (b B A2 : Nat) (cs : Array Value) (c : Cs) (wr : World) : Prop where
  below : Below w.heap.size w wr
  rd : RdC wr b B c
  a : Blk wr w.heap.size zP 28
  a2 : Blk wr A2 cs 28
  l1 : w.heap.size < b
  l2 : b < B
  l3 : B < A2
theorem DS.step {w wr wr' : World} {b B A2 : Nat} {cs : Array Value} {c c' : Cs} (h : DS w b B A2 cs c wr) (hb : Bu2 b B wr wr') (hr : RdC wr' b B c') : DS w b B A2 cs c' wr' := by
  have h1 := h.l1
  have h2 := h.l2
  have h3 := h.l3
  exact ⟨h.below.trans (hb.below (by omega) (by omega) h.below.size), hr, h.a.bu2 hb (by omega) (by omega), h.a2.bu2 hb (by omega) (by omega), h1, h2, h3⟩
theorem DS.set {w wr : World} {b B A2 : Nat} {cs : Array Value} {c : Cs} (h : DS w b B A2 cs c wr) (i : Nat) (v : Value) : DS w b B A2 (cs.setIfInBounds i v) c (wr.setCell ⟨A2, i, none⟩ v) := by
  have h1 := h.l1
  have h2 := h.l2
  have h3 := h.l3
  refine ⟨h.below.setCell (by show _ ≤ A2; omega) _, h.rd.sn i v (by omega) (by omega), ?_, But.heap' h.a2, h1, h2, h3⟩
  unfold Blk
  rw [Below.heap_setCell wr ⟨A2, i, none⟩ v w.heap.size (by show _ ≠ A2; omega)]
  exact h.a
theorem DS.s2 {w wr : World} {b B A2 : Nat} {a0 a1 a2 a3 : Value} {c : Cs} (h : DS w b B A2 #[a0, a1, a2, a3] c wr) (v : Value) : DS w b B A2 #[a0, a1, v, a3] c (wr.setCell ⟨A2, 2, none⟩ v) := h.set 2 v
theorem DS.s3 {w wr : World} {b B A2 : Nat} {a0 a1 a2 a3 : Value} {c : Cs} (h : DS w b B A2 #[a0, a1, a2, a3] c wr) (v : Value) : DS w b B A2 #[a0, a1, a2, v] c (wr.setCell ⟨A2, 3, none⟩ v) := h.set 3 v
theorem DS.new {w w2 : World} {b B : Nat} {cs : Array Value} {c : Cs} (hb : Below w.heap.size w w2) (ha : Blk w2 w.heap.size zP 28) (hr : RdC w2 b B c) (l1 : w.heap.size < b) (l2 : b < B) : DS w b B w2.heap.size cs c (w2.alloc (.cells cs 28)) :=
  ⟨hb.alloc hb.size _, hr.al _, ha.below ((Below.refl _ _).alloc (Nat.le_refl _) _) ha.lt, blk_new _ _ _, l1, l2, hr.cr.lt⟩
/-- the codec's reader, made anew -/
theorem rd_new (W : World) (l : List UInt8) : RdC ((W.alloc (.cells #[Wr.str l, .int .i64 0] 83)).alloc (.cells #[pt W.heap.size, .bool false] 63)) W.heap.size (W.heap.size + 1) ⟨⟨l, 0⟩, false⟩ := by
  have z : (W.alloc (.cells #[Wr.str l, .int .i64 0] 83)).heap.size = W.heap.size + 1 := by simp
  refine ⟨?_, ?_, by omega⟩
  · exact Two.al (show Two (W.alloc (.cells #[Wr.str l, .int .i64 0] 83)) W.heap.size 83 (Wr.str l) (.int .i64 0) from heap_alloc_new W _) _
  · rw [← z]
    exact heap_alloc_new _ _
theorem ss_rd {w W : World} (h : SS w W) (o1 o2 : Obj) : Below w.heap.size w ((W.alloc o1).alloc o2) ∧ Blk ((W.alloc o1).alloc o2) w.heap.size zP 28 ∧ w.heap.size < W.heap.size := by
  have h1 : Below W.heap.size W ((W.alloc o1).alloc o2) := ((Below.refl _ _).alloc (Nat.le_refl _) _).alloc (by simp) _
  exact ⟨below_step h.below h1, h.a.below h1 h.a.lt, h.a.lt⟩
theorem NodOwn.sn {w : World} {B0 k o : Nat} {v : Value} {cs : Array Value} {y : Nod} (h : NodOwn w B0 y) (hk : Blk w k cs 28) : NodOwn (w.setCell ⟨k, o, none⟩ v) B0 y :=
  ⟨ownC_sn h.1 (ownC_ne h.1 hk (by decide)), ownC_sn h.2.1 (ownC_ne h.2.1 hk (by decide)), h.2.2⟩

/-- the rows that are read -/
def RowV (B0 : Nat) (o : Option Addr) (p : Nat) (vs : List Va) (wr : World) : Prop := wr.ownsRow B0 49 4 (.slice o vs.length p) vs.length (vs.flatMap vcell)
def RowN (B0 : Nat) (o : Option Addr) (p : Nat) (ys : List Nod) (wr : World) : Prop := wr.ownsRow B0 41 11 (.slice o ys.length p) ys.length (ys.flatMap ncell) ∧ ∀ y ∈ ys, NodOwn wr B0 y
def RowF (B0 : Nat) (o : Option Addr) (p : Nat) (fs : List Fl) (wr : World) : Prop := wr.ownsRow B0 35 4 (.slice o fs.length p) fs.length (fs.flatMap fcell)
theorem RowV.bu2 {w w' : World} {b B B0 p : Nat} {o : Option Addr} {vs : List Va} (h : RowV B0 o p vs w) (hb : Bu2 b B w w') (h1 : b < B0) (h2 : B < B0) : RowV B0 o p vs w' := ownC_bu2 h hb h1 h2
theorem RowN.bu2 {w w' : World} {b B B0 p : Nat} {o : Option Addr} {ys : List Nod} (h : RowN B0 o p ys w) (hb : Bu2 b B w w') (h1 : b < B0) (h2 : B < B0) : RowN B0 o p ys w' := ⟨ownC_bu2 h.1 hb h1 h2, fun y hy => (h.2 y hy).bu2 hb h1 h2⟩
theorem RowF.bu2 {w w' : World} {b B B0 p : Nat} {o : Option Addr} {fs : List Fl} (h : RowF B0 o p fs w) (hb : Bu2 b B w w') (h1 : b < B0) (h2 : B < B0) : RowF B0 o p fs w' := ownC_bu2 h hb h1 h2
theorem RowV.sn {w : World} {B0 p k i : Nat} {v : Value} {o : Option Addr} {vs : List Va} {cs : Array Value} (h : RowV B0 o p vs w) (hk : Blk w k cs 28) : RowV B0 o p vs (w.setCell ⟨k, i, none⟩ v) := ownC_sn h (ownC_ne h hk (by decide))
theorem RowN.sn {w : World} {B0 p k i : Nat} {v : Value} {o : Option Addr} {ys : List Nod} {cs : Array Value} (h : RowN B0 o p ys w) (hk : Blk w k cs 28) : RowN B0 o p ys (w.setCell ⟨k, i, none⟩ v) := ⟨ownC_sn h.1 (ownC_ne h.1 hk (by decide)), fun y hy => (h.2 y hy).sn hk⟩
theorem RowF.sn {w : World} {B0 p k i : Nat} {v : Value} {o : Option Addr} {fs : List Fl} {cs : Array Value} (h : RowF B0 o p fs w) (hk : Blk w k cs 28) : RowF B0 o p fs (w.setCell ⟨k, i, none⟩ v) := ownC_sn h (ownC_ne h hk (by decide))
theorem RowV.of {w : World} {B1 B0 p : Nat} {o : Option Addr} {vs : List Va} (h : w.ownsRow B1 49 4 (.slice o vs.length p) vs.length (vs.flatMap vcell)) (hB : B0 ≤ B1) : RowV B0 o p vs w := ownC_base h hB
theorem RowN.of {w : World} {B1 B0 p : Nat} {o : Option Addr} {ys : List Nod} (h : w.ownsRow B1 41 11 (.slice o ys.length p) ys.length (ys.flatMap ncell)) (hy : ∀ y ∈ ys, NodOwn w B1 y) (hB : B0 ≤ B1) : RowN B0 o p ys w := ⟨ownC_base h hB, fun y hy' => (hy y hy').base hB⟩
theorem RowF.of {w : World} {B1 B0 p : Nat} {o : Option Addr} {fs : List Fl} (h : w.ownsRow B1 35 4 (.slice o fs.length p) fs.length (fs.flatMap fcell)) (hB : B0 ≤ B1) : RowF B0 o p fs w := ownC_base h hB
theorem DS.start {w W W2 w1 w2 : World} {c2 : Cs} {o : Option Addr} {p : Nat} {vs : List Va} (hB : Below w.heap.size w W2) (hA : Blk W2 w.heap.size zP 28) (hb1 : Bu2 W.heap.size (W.heap.size + 1) W2 w1) (hb2 : Bu2 W.heap.size (W.heap.size + 1) w1 w2) (h2 : RdC w2 W.heap.size (W.heap.size + 1) c2)
    (ho : w2.ownsRow w1.heap.size 49 4 (.slice o vs.length p) vs.length (vs.flatMap vcell)) (hlt : w.heap.size < W.heap.size) (hz : W.heap.size + 2 ≤ W2.heap.size) (cs : Array Value) :
    DS w W.heap.size (W.heap.size + 1) w2.heap.size cs c2 (w2.alloc (.cells cs 28)) ∧ RowV (W.heap.size + 2) o p vs (w2.alloc (.cells cs 28)) := by
  have hb := hb1.trans hb2
  refine ⟨DS.new (hB.trans (hb.below (by omega) (by omega) (by omega))) (hA.bu2 hb (by omega) (by omega)) h2 hlt (by omega), ?_⟩
  exact ownC_al (ownC_base ho (by have := hb1.size; omega)) _
theorem rd_size (W : World) (o1 o2 : Obj) : W.heap.size + 2 ≤ ((W.alloc o1).alloc o2).heap.size := by simp
/-- behind the end of the bytes -/
theorem DS.fin {w : World} {b B A2 : Nat} {cs : Array Value} {c : Cs} {wr wr' : World} {r' : Rs} (h : DS w b B A2 cs c wr) (hb : But b wr wr') (hr : Wr.RdW wr' b r') : DS w b B A2 cs ⟨r', c.bad⟩ wr' :=
  h.step (.left hb) ⟨hr, h.rd.cr.kept hb (Ne.symm h.rd.ne), h.rd.ne⟩

/-- all that is read of a process -/
theorem read_hs (c : Cs) (hcl : c.r.l.length ≤ 10000) : ∃ (nm : List UInt8) (c1 : Cs) (vs : List Va) (c2 : Cs) (ps : List PNod) (c3 : Cs) (fs : List Fl) (c4 : Cs), rdProc c = (⟨⟨nm.toArray⟩, vs, ps, fs⟩, c4) ∧
    Hid (∀ (w : World) (b B : Nat), RdC w b B c → Calls Tryd.prog 22 #[pt B] w fun e w' => e = .returned (Wr.str nm) ∧ Bu2 b B w w' ∧ RdC w' b B c1) ∧
    Hid (∀ (w : World) (b B : Nat), RdC w b B c1 → Calls Tryd.prog 23 #[pt B] w fun e w' => ∃ u, e = .returned u ∧ w'.ownsRow w.heap.size 49 4 u vs.length (vs.flatMap vcell) ∧ Bu2 b B w w' ∧ RdC w' b B c2) ∧
    Hid (∀ (w : World) (b B : Nat), RdC w b B c2 → Calls Tryd.prog 24 #[pt B, .func (.func 25) #[pt B] #[]] w fun e w' => ∃ (u : Value) (ys : List Nod), e = .returned u ∧ w'.ownsRow w.heap.size 41 11 u ys.length (ys.flatMap ncell) ∧ ys.map Nod.pn = ps ∧ (∀ y ∈ ys, NodOwn w' w.heap.size y) ∧ Bu2 b B w w' ∧ RdC w' b B c3) ∧
    Hid (∀ (w : World) (b B : Nat), RdC w b B c3 → Calls Tryd.prog 26 #[pt B, .func (.func 27) #[pt B] #[]] w fun e w' => ∃ u, e = .returned u ∧ w'.ownsRow w.heap.size 35 4 u fs.length (fs.flatMap fcell) ∧ Bu2 b B w w' ∧ RdC w' b B c4) ∧
    Hid ((⟨nm.toArray⟩ : ByteArray).size ≤ 9223372036854775807 ∧ (∀ v ∈ vs, v.fit) ∧ (∀ p ∈ ps, p.fit) ∧ (∀ v ∈ fs, v.fit)) := by
  obtain ⟨nm, c1, q1⟩ : ∃ nm c1, c.text = (nm, c1) := ⟨_, _, rfl⟩
  have d1 : c1.r.l.length ≤ 10000 := by have := c.text_len; rw [q1] at this; exact Nat.le_trans this hcl
  have z1 := Cs.text_size c
  rw [q1] at z1
  obtain ⟨vs, c2, q2⟩ : ∃ vs c2, Cs.list rdVar c1 = (vs, c2) := ⟨_, _, rfl⟩
  have d2 : c2.r.l.length ≤ 10000 := by have := Cs.list_len rdVar_len c1; rw [q2] at this; exact Nat.le_trans this d1
  have z2 := Cs.list_all rdVar_fit c1
  rw [q2] at z2
  obtain ⟨ps, c3, q3⟩ : ∃ ps c3, Cs.list rdNode c2 = (ps, c3) := ⟨_, _, rfl⟩
  have d3 : c3.r.l.length ≤ 10000 := by have := Cs.list_len rdNode_len c2; rw [q3] at this; exact Nat.le_trans this d2
  have z3 := Cs.list_all rdNode_fit c2
  rw [q3] at z3
  obtain ⟨fs, c4, q4⟩ : ∃ fs c4, Cs.list rdFlow c3 = (fs, c4) := ⟨_, _, rfl⟩
  have z4 := Cs.list_all rdFlow_fit c3
  rw [q4] at z4
  refine ⟨nm, c1, vs, c2, ps, c3, fs, c4, ?_, ?_, ?_, ?_, ?_, ?_⟩
  · simp only [rdProc, rdC, rdB, rdA, q1, q2, q3, q4]
  · exact Lib.hid (fun w b B h => by have := text_rd b B c w h hcl; rw [q1] at this; exact this)
  · exact Lib.hid (fun w b B h => by have := vars_rd b B c1 w h d1; rw [q2] at this; exact this)
  · exact Lib.hid (fun w b B h => by have := list_node b B c2 w h d2; rw [q3] at this; exact this)
  · exact Lib.hid (fun w b B h => by have := list_flow b B c3 w h d3; rw [q4] at this; exact this)
  · exact Lib.hid ⟨mk_le (Nat.le_trans z1 (by omega)), z2, z3, z4⟩

set_option maxRecDepth 100000 in
set_option maxHeartbeats 16000000 in
theorem dec_most {A : Nat → Nat × Nat} (l : List UInt8) (w : World) (hG : Gl A w) (h1 : l.length ≤ 4000) (h2 : 4 ≤ l.length) (h3 : l.drop (l.length - 4) = sealL (l.take (l.length - 4))) :
    Calls Tryd.prog 11 #[strL' l] w (DecP l w) := by
  have hsz := mk_size l
  have hc : decC l = 4 := by unfold decC; rw [if_neg (by omega), if_neg (by omega), if_neg (by rw [h3]; simp)]
  have HC := Lib.hid hc
  have HG := Lib.hid hG
  obtain ⟨m, hm⟩ : ∃ m, l.length = m + 4 := ⟨l.length - 4, by omega⟩
  have hcs : cs0 l = ⟨⟨l.take m, 0⟩, false⟩ := by unfold cs0; rw [hm]; rfl
  rw [show l.length - 4 = m by omega] at h3
  have x1 : (⟨l.toArray⟩ : ByteArray).extract 0 m = ⟨(l.take m).toArray⟩ := Wr.ext_take l m
  have x2 : (⟨l.toArray⟩ : ByteArray).extract m (m + 4) = ⟨(l.drop m).toArray⟩ := by rw [← hm]; exact Wr.ext_drop' l m
  rw [hm] at hsz h1
  have SA := fun w1 => seal_any ⟨(l.take m).toArray⟩ w1 (by rw [mk_size, List.length_take]; omega)
  rw [show (⟨(l.take m).toArray⟩ : ByteArray).data.toList = l.take m by simp] at SA
  rw [h3] at x2
  have SA := Lib.hid SA
  obtain ⟨nm, c1, vs, c2, ps, c3, fs, c4, hrd, T1, T2, T3, T4, FZ⟩ := read_hs (cs0 l) (by rw [hcs]; show (l.take m).length ≤ 10000; rw [List.length_take]; omega)
  unfold DecP
  rw [hrd]
  simp only
  rw [hcs] at T1
  clear hc h2 h3 hrd hcs hG
  have hb1 : (m : Int) ≤ (m : Int) + 4 := by omega
  have hb2 : (0 : Int) ≤ m := by omega
  have hS0 : SS w (w.alloc (.cells zP 28)).drew := ⟨((Below.refl w.heap.size w).alloc (Nat.le_refl _) _).drew, blk_new w zP 28⟩
  go_enter Tryd.func11, Tryd.ntmps11
  go_upto_region 6 with (fail)
  refine wp_region_S (SS w) (by kernel_rfl) hS0 ?_
  refine anyS_take (i := 0) (oi := _) (d := (some 20)) (v := ?_) rfl rfl (by kernel_rfl) (by kernel_rfl) (by kernel_rfl) (fun _ _ _ h => h) (YS.pure (by kernel_rfl) (fun W hW => ?_)) ?_
  rotate_left
  · go_simp
    try with_reducible rfl
  simp only [Act.put, List.setIfInBounds_toArray, List.set_cons_zero, List.set_cons_succ]
  refine anyS_take (i := 1) (oi := _) (d := (some 21)) (v := ?_) rfl rfl (by kernel_rfl) (by kernel_rfl) (by kernel_rfl) (fun _ _ _ h => h) (YS.pure (by kernel_rfl) (fun W hW => ?_)) ?_
  rotate_left
  · go_simp
    try with_reducible rfl
  simp only [Act.put, List.setIfInBounds_toArray, List.set_cons_zero, List.set_cons_succ]
  refine anyS_take (i := 2) (oi := _) (d := (some 22)) (v := ?_) rfl rfl (by kernel_rfl) (by kernel_rfl) (by kernel_rfl) (fun _ _ _ h => h) (YS.pure (by kernel_rfl) (fun W hW => ?_)) ?_
  rotate_left
  · go_simp
    try with_reducible rfl
  simp only [Act.put, List.setIfInBounds_toArray, List.set_cons_zero, List.set_cons_succ]
  refine anyS_take (i := 3) (oi := _) (d := (some 23)) (v := ?_) rfl rfl (by kernel_rfl) (by kernel_rfl) (by kernel_rfl) (fun _ _ _ h => h) (YS.pure (by kernel_rfl) (fun W hW => ?_)) ?_
  rotate_left
  · go_simp
    try with_reducible rfl
  simp only [Act.put, List.setIfInBounds_toArray, List.set_cons_zero, List.set_cons_succ]
  refine anyS_take (i := 4) (oi := _) (d := (some 24)) (v := ?_) rfl rfl (by kernel_rfl) (by kernel_rfl) (by kernel_rfl) (fun _ _ _ h => h) (YS.pure (by kernel_rfl) (fun W hW => ?_)) ?_
  rotate_left
  · go_simp
    try with_reducible rfl
  simp only [Act.put, List.setIfInBounds_toArray, List.set_cons_zero, List.set_cons_succ]
  refine anyS_take (i := 5) (oi := _) (d := (some 25)) (v := ?_) rfl rfl (by kernel_rfl) (by kernel_rfl) (by kernel_rfl) (fun _ _ _ h => h) (YS.pure (by kernel_rfl) (fun W hW => ?_)) ?_
  rotate_left
  · go_simp
    try with_reducible rfl
  simp only [Act.put, List.setIfInBounds_toArray, List.set_cons_zero, List.set_cons_succ]
  refine anyS_take (i := 6) (oi := _) (d := (some 26)) (v := .string ⟨(sealL (l.take m)).toArray⟩) rfl rfl (by kernel_rfl) (by kernel_rfl) (by kernel_rfl) (fun _ _ _ h => h) (YS.call (f := ?_) (args := ?_) (by kernel_rfl) (fun W hW => ?_) (fun W hW => ?_)) ?_
  rotate_left 2
  · go_simp
    try (refine And.intro ?_ ?_ <;> with_reducible rfl)
  · exact (SA.out W).mono (fun e w1 h => ⟨h.1, SS.step hW h.2⟩)
  simp only [Act.put, List.setIfInBounds_toArray, List.set_cons_zero, List.set_cons_succ]
  refine anyS_take (i := 7) (oi := _) (d := (some 27)) (v := ?_) rfl rfl (by kernel_rfl) (by kernel_rfl) (by kernel_rfl) (fun _ _ _ h => h) (YS.pure (by kernel_rfl) (fun W hW => ?_)) ?_
  rotate_left
  · go_simp
    try with_reducible rfl
  simp only [Act.put, List.setIfInBounds_toArray, List.set_cons_zero, List.set_cons_succ]
  refine anyS_take (i := 8) (oi := _) (d := (some 19)) (v := ?_) rfl rfl (by kernel_rfl) (by kernel_rfl) (by kernel_rfl) (fun _ _ _ h => h) (YS.pure (by kernel_rfl) (fun W hW => ?_)) ?_
  rotate_left
  · go_simp
    try with_reducible rfl
  simp only [Act.put, List.setIfInBounds_toArray, List.set_cons_zero, List.set_cons_succ]
  refine anyS_done (by kernel_rfl) (fun W hW => ?_) _
  clear hS0 SA x2
  obtain ⟨hw1, hw2, hw3⟩ := ss_rd hW (.cells #[Wr.str (l.take m), .int .i64 0] 83) (.cells #[pt W.heap.size, .bool false] 63)
  have R0 := Lib.hid (rd_new W (l.take m))
  have HW1 := Lib.hid hw1
  have HW2 := Lib.hid hw2
  clear hw1 hw2 hW
  go_upto_region 12 with (first
    | (go_at_call 21; with_reducible refine (open_any (l.take m) W).mono ?_; rintro e wo ⟨rfl, rfl⟩)
    | (go_at_call 22; with_reducible refine (T1.out _ _ _ R0.out).mono ?_; rintro e w1 ⟨rfl, hb1, h1⟩)
    | (go_at_call 23; with_reducible refine (T2.out _ _ _ h1).mono ?_; rintro e w2 ⟨u, rfl, ho2, hb2, h2⟩; obtain ⟨o1, p1, rfl, hp1⟩ := ownC_form ho2; obtain ⟨D2, V2⟩ := DS.start HW1.out HW2.out hb1 hb2 h2 ho2 hw3 (rd_size _ _ _) #[Wr.str nm, .slice o1 vs.length p1, .slice none 0 0, .slice none 0 0]; have D2 := Lib.hid D2; have V2 := Lib.hid V2; clear ho2 hb1 hb2 h2)
    | (go_at_call 24; with_reducible refine (T3.out _ _ _ D2.out.rd).mono ?_; rintro e w3 ⟨u, ys, rfl, ho3, hys, hyo, hb3, h3⟩; obtain ⟨o2, p2, rfl, hp2⟩ := ownC_form ho3; have D3 := Lib.hid (D2.out.step hb3 h3); have V3 := Lib.hid (V2.out.bu2 hb3 (by omega) (by omega)); have N3 := Lib.hid (RowN.of ho3 hyo (B0 := W.heap.size + 2) (by have := D2.out.rd.cr.lt; omega)); have HYS := Lib.hid hys; have g2 := D3.out.a2.fz 2; have a2 := D3.out.a2.c 2; clear ho3 hyo hb3 h3 hys)
    | (go_at_call 26; with_reducible refine (T4.out _ _ _ (D3.out.s2 _).rd).mono ?_; rintro e w4 ⟨u, rfl, ho4, hb4, h4⟩; obtain ⟨o3, p3, rfl, hp3⟩ := ownC_form ho4; have D4 := Lib.hid ((D3.out.s2 _).step hb4 h4); have V4 := Lib.hid ((V3.out.sn D3.out.a2).bu2 hb4 (by omega) (by omega)); have N4 := Lib.hid ((N3.out.sn D3.out.a2).bu2 hb4 (by omega) (by omega)); have F4 := Lib.hid (RowF.of ho4 (B0 := W.heap.size + 2) (by have := (D3.out.s2 (.slice o2 ys.length p2)).rd.cr.lt; omega)); have g3 := D4.out.a2.fz 3; have a3 := D4.out.a2.c 3; clear ho4 hb4 h4))
  have D5 := Lib.hid (D4.out.s3 (.slice o3 fs.length p3))
  have V5 := Lib.hid (V4.out.sn (i := 3) (v := .slice o3 fs.length p3) D4.out.a2)
  have N5 := Lib.hid (N4.out.sn (i := 3) (v := .slice o3 fs.length p3) D4.out.a2)
  have F5 := Lib.hid (F4.out.sn (i := 3) (v := .slice o3 fs.length p3) D4.out.a2)
  obtain ⟨W5, hW5⟩ : ∃ W5, w4.setCell ⟨w2.heap.size, 3, none⟩ (.slice o3 fs.length p3) = W5 := ⟨_, rfl⟩
  rw [hW5] at D5 V5 N5 F5 ⊢
  clear hW5 D2 D3 D4 V2 V3 V4 N3 N4 F4 g2 g3 a2 a3 T1 T2 T3 T4 HW1 HW2 R0
  have fin := Wr.endW_any W.heap.size c4.r W5 D5.out.rd.wr
  have k0 := D5.out.rd.cr.c0
  have k1 := D5.out.rd.cr.c1
  have y0 := D5.out.a.c 0
  have y1 := D5.out.a.c 1
  have y2 := D5.out.a.c 2
  have y3 := D5.out.a.c 3
  have f0 := D5.out.a.fz 0
  have f1 := D5.out.a.fz 1
  have f2 := D5.out.a.fz 2
  have f3 := D5.out.a.fz 3
  cases hbad : c4.bad
  case true =>
    rw [hbad] at k1
    clear fin
    go_wp2
    refine bodyPost_ret (v := .tuple #[.agg zP, .int .i64 4]) (by simp [results, Tryd.results11, go_sem, *]) rfl ⟨?_, .inl ⟨by rw [HC.out]; rfl, fun _ => .inl hbad⟩⟩
    exact (((D5.out.below.setCell (Nat.le_refl _) _).setCell (Nat.le_refl _) _).setCell (Nat.le_refl _) _).setCell (Nat.le_refl _) _
  case false =>
    rw [hbad] at k1
    obtain ⟨⟨ec, r5⟩, q5⟩ : ∃ q, Wr.Rs.fin c4.r = q := ⟨_, rfl⟩
    rw [q5] at fin
    simp only at fin
    have FN := Lib.hid fin
    have Q5 := Lib.hid q5
    clear fin q5
    by_cases hec : ec = 0
    · subst hec
      clear y0 y1 y2 y3 f0 f1 f2 f3
      go_wp2_with (go_at_call 28; with_reducible refine FN.out.mono ?_; rintro e w6 ⟨rfl, hb6, h6⟩; have D6 := Lib.hid (D5.out.fin hb6 h6); have z0 := D6.out.a2.c 0; have z1 := D6.out.a2.c 1; have z2 := D6.out.a2.c 2; have z3 := D6.out.a2.c 3)
      have V6 := V5.out.bu2 (.left hb6 : Bu2 W.heap.size (W.heap.size + 1) W5 w6) (by omega) (by omega)
      have N6 := N5.out.bu2 (.left hb6 : Bu2 W.heap.size (W.heap.size + 1) W5 w6) (by omega) (by omega)
      have F6 := F5.out.bu2 (.left hb6 : Bu2 W.heap.size (W.heap.size + 1) W5 w6) (by omega) (by omega)
      obtain ⟨x, hxc, hxa, hxf, hxp⟩ := mk_pr (w := w6) ⟨nm.toArray⟩ vs ys fs o1 o2 o3 p1 p2 p3 V6 N6.1 N6.2 F6 FZ.out.1 FZ.out.2.1 (by rw [HYS.out]; exact FZ.out.2.2.1) FZ.out.2.2.2
      rw [HYS.out] at hxp
      have PX := proc_any x w6 (HG.out.below D6.out.below) (hxa w6 _ V6 N6.1 N6.2 F6) hxf
      rw [hxc] at PX
      have HXA := Lib.hid hxa
      have HXC := Lib.hid hxc
      have V6 := Lib.hid V6
      have N6 := Lib.hid N6
      have F6 := Lib.hid F6
      clear hxa hxc hb6 h6 z0 z1 z2 z3
      by_cases hxe : x.e = 0
      · rw [hxe] at PX
        refine PX.mono ?_
        rintro e w7 ⟨rfl, hb7⟩
        have A7 := D6.out.a.below hb7 D6.out.a.lt
        have B7 := D6.out.a2.below hb7 D6.out.a2.lt
        have z0 := B7.c 0
        have z1 := B7.c 1
        have z2 := B7.c 2
        have z3 := B7.c 3
        have y0 := A7.c 0
        have y1 := A7.c 1
        have y2 := A7.c 2
        have y3 := A7.c 3
        have f0 := A7.fz 0
        have f1 := A7.fz 1
        have f2 := A7.fz 2
        have f3 := A7.fz 3
        have HB7 := Lib.hid (below_step D6.out.below hb7)
        have V7 := Lib.hid (ownC_mono V6.out hb7)
        have N7 := Lib.hid (And.intro (ownC_mono N6.out.1 hb7) (fun y hy => (⟨ownC_mono (N6.out.2 y hy).1 hb7, ownC_mono (N6.out.2 y hy).2.1 hb7, (N6.out.2 y hy).2.2⟩ : NodOwn w7 (W.heap.size + 2) y)))
        have F7 := Lib.hid (ownC_mono F6.out hb7)
        have A7 := Lib.hid A7
        clear hb7 B7 PX
        have nv := ownC_ne V7.out A7.out (by decide)
        have nn := ownC_ne N7.out.1 A7.out (by decide)
        have nf := ownC_ne F7.out A7.out (by decide)
        have ny := fun y hy => ownC_ne (N7.out.2 y hy).1 A7.out (by decide)
        have ny2 := fun y hy => ownC_ne (N7.out.2 y hy).2.1 A7.out (by decide)
        have NV := Lib.hid (And.intro nv (And.intro nn (And.intro nf (And.intro ny ny2))))
        have HXE := Lib.hid hxe
        clear nv nn nf ny ny2 hxe
        go_wp2
        refine bodyPost_ret (v := .tuple #[.agg #[Wr.str nm, .slice o1 vs.length p1, .slice o2 ys.length p2, .slice o3 fs.length p3], .int .i64 0]) (by simp [results, Tryd.results11, go_sem, *]) rfl ⟨?_, .inr ⟨x, by rw [HXC.out], ?_, hxf, HXE.out, HC.out, hxp, hbad, by rw [Q5.out]⟩⟩
        · exact (((HB7.out.setCell (Nat.le_refl _) _).setCell (Nat.le_refl _) _).setCell (Nat.le_refl _) _).setCell (Nat.le_refl _) _
        · obtain ⟨nv, nn, nf, ny, ny2⟩ := NV.out
          exact HXA.out _ (W.heap.size + 2) (ownC_sn (ownC_sn (ownC_sn (ownC_sn V7.out nv) nv) nv) nv) (ownC_sn (ownC_sn (ownC_sn (ownC_sn N7.out.1 nn) nn) nn) nn)
            (fun y hy => ⟨ownC_sn (ownC_sn (ownC_sn (ownC_sn (N7.out.2 y hy).1 (ny y hy)) (ny y hy)) (ny y hy)) (ny y hy), ownC_sn (ownC_sn (ownC_sn (ownC_sn (N7.out.2 y hy).2.1 (ny2 y hy)) (ny2 y hy)) (ny2 y hy)) (ny2 y hy), (N7.out.2 y hy).2.2⟩)
            (ownC_sn (ownC_sn (ownC_sn (ownC_sn F7.out nf) nf) nf) nf)
      · have e1 : ((x.e : Int) != 0) = true := by rw [bne_iff_ne]; omega
        refine PX.mono ?_
        rintro e w7 ⟨rfl, hb7⟩
        have A7 := D6.out.a.below hb7 D6.out.a.lt
        have y0 := A7.c 0
        have y1 := A7.c 1
        have y2 := A7.c 2
        have y3 := A7.c 3
        have f0 := A7.fz 0
        have f1 := A7.fz 1
        have f2 := A7.fz 2
        have f3 := A7.fz 3
        have HB7 := Lib.hid (below_step D6.out.below hb7)
        have HXE := Lib.hid hxe
        clear hb7 A7 PX hxe
        go_wp2
        refine bodyPost_ret (v := .tuple #[.agg zP, .int .i64 4]) (by simp [results, Tryd.results11, go_sem, *]) rfl ⟨?_, .inl ⟨by rw [HC.out]; rfl, fun _ => .inr (.inr ⟨x, hxp, HXE.out⟩)⟩⟩
        exact (((HB7.out.setCell (Nat.le_refl _) _).setCell (Nat.le_refl _) _).setCell (Nat.le_refl _) _).setCell (Nat.le_refl _) _
    · have e1 : ((ec : Int) != 0) = true := by rw [bne_iff_ne]; omega
      have HE := Lib.hid hec
      clear hec y0 y1 y2 y3 f0 f1 f2 f3
      go_wp2_with (go_at_call 28; with_reducible refine FN.out.mono ?_; rintro e w6 ⟨rfl, hb6, h6⟩; have D6 := Lib.hid (D5.out.fin hb6 h6); have y0 := D6.out.a.c 0; have y1 := D6.out.a.c 1; have y2 := D6.out.a.c 2; have y3 := D6.out.a.c 3; have f0 := D6.out.a.fz 0; have f1 := D6.out.a.fz 1; have f2 := D6.out.a.fz 2; have f3 := D6.out.a.fz 3)
      refine bodyPost_ret (v := .tuple #[.agg zP, .int .i64 4]) (by simp [results, Tryd.results11, go_sem, *]) rfl ⟨?_, .inl ⟨by rw [HC.out]; rfl, fun _ => .inr (.inl (by rw [Q5.out]; exact HE.out))⟩⟩
      exact (((D6.out.below.setCell (Nat.le_refl _) _).setCell (Nat.le_refl _) _).setCell (Nat.le_refl _) _).setCell (Nat.le_refl _) _
theorem dec_any {A : Nat → Nat × Nat} (l : List UInt8) (w : World) (hG : Gl A w) (hl : l.length ≤ 1000000) :
    Calls Tryd.prog 11 #[strL' l] w (DecP l w) := by
  by_cases h : 4000 < l.length ∨ l.length < 4 ∨ l.drop (l.length - 4) ≠ sealL (l.take (l.length - 4))
  · exact dec_few l w hl h
  · exact dec_most l w hG (by omega) (by omega) (by
      by_cases he : l.drop (l.length - 4) = sealL (l.take (l.length - 4))
      · exact he
      · exact absurd (.inr (.inr he)) h)
end Go.Proofs.YtblebjgjomamdaaDoor
