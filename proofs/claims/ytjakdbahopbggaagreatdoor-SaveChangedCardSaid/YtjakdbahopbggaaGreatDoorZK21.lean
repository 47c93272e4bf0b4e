/- A node, a flow and a process as data in memory. Conditions: none. -/
import Derived.Test.YtjakdbahopbggaaGreatDoorZK17
import Derived.Test.YtjakdbahopbggaaGreatDoorZMNode
section
namespace Go.Proofs.YtjakdbahopbggaaGreatDoor
open Go.RowKit Go.Ow

/-- a node with its two slices -/
structure Nod where
  d : Nd
  o : Option Addr
  m : Nat
  c : Nat
  f : Nat → Va
  p : Option Addr
  n : Nat
  q : Nat
  g : Nat → ByteArray
abbrev Nod.cs (x : Nod) : Array Value := nodeC x.d (.slice x.o x.m x.c) (.slice x.p x.n x.q)
def Nod.fit (x : Nod) : Prop := x.d.fit ∧ (∀ k, (x.f k).fit) ∧ (∀ k, (x.g k).size ≤ 9223372036854775807) ∧ x.m ≤ 9223372036854775807 ∧ x.n ≤ 9223372036854775807 ∧ x.m ≤ x.c ∧ x.n ≤ x.q
def Nod.at (w : World) (x : Nod) : Prop := Vr w x.o x.m x.f ∧ Ss w x.p x.n x.g
theorem Nod.at.below {w wr : World} {x : Nod} (h : x.at w) (hb : Below w.heap.size w wr) : x.at wr := ⟨h.1.below hb, h.2.below hb⟩
def Nod.e (x : Nod) : Nat := nodeE x.d x.m x.f x.n x.g

set_option maxRecDepth 100000 in
set_option maxHeartbeats 4000000 in
theorem node_large (d : Nd) (o1 p1 : Option Addr) (m1 c1 n1 q1 : Nat) (w : World) (hm : m1 ≤ 9223372036854775807) (hn : n1 ≤ 9223372036854775807) (hd : d.text.size ≤ 9223372036854775807)
    (h : 100 < d.text.size ∨ 8 < m1 ∨ 8 < n1) :
    Calls Tryz.prog 92 #[.agg (nodeC d (.slice o1 m1 c1) (.slice p1 n1 q1))] w fun r w' => r = .returned (.int .i64 40) ∧ Below w.heap.size w w' := by
  have HB := Lib.hid ((Below.refl w.heap.size w).alloc (Nat.le_refl _) (.cells (nodeC d (.slice o1 m1 c1) (.slice p1 n1 q1)) 111))
  by_cases a1 : 100 < d.text.size
  · clear h
    go_enter Tryz.func92, Tryz.ntmps92
    go_wp2
    go_ret
    exact ⟨rfl, HB.out⟩
  · have a1' : d.text.size ≤ 100 := by omega
    by_cases a2 : 8 < m1
    · clear h
      go_enter Tryz.func92, Tryz.ntmps92
      go_wp2
      go_ret
      exact ⟨rfl, HB.out⟩
    · have a2' : m1 ≤ 8 := by omega
      have a3 : 8 < n1 := by omega
      clear h
      go_enter Tryz.func92, Tryz.ntmps92
      go_wp2
      go_ret
      exact ⟨rfl, HB.out⟩
theorem node_all {A : Nat → Nat × Nat} (x : Nod) (w : World) (hG : Gl A w) (h : x.at w) (hx : x.fit) :
    Calls Tryz.prog 92 #[.agg x.cs] w fun r w' => r = .returned (.int .i64 x.e) ∧ Below w.heap.size w w' := by
  obtain ⟨h1, h2, h3, h4, h5, h6, h7⟩ := hx
  by_cases hl : 100 < x.d.text.size ∨ 8 < x.m ∨ 8 < x.n
  · have he : x.e = 40 := by unfold Nod.e nodeE; rw [if_pos hl]
    rw [he]
    exact node_large x.d x.o x.p x.m x.c x.n x.q w h4 h5 h1.2.2.2.2.2.2.2.2.1 hl
  · exact node_any x.d x.o x.p x.m x.c x.n x.q x.f x.g w hG h.1 h.2 h2 h3 h4 h5 h6 h7 h1 (by omega) (by omega) (by omega)

/-- the cells of a slice of nodes -/
def NdA (w : World) (o : Option Addr) (n : Nat) (F : Nat → Nod) : Prop := ∀ k, k < n → ∃ b off, o = some ⟨b, off, none⟩ ∧ b < w.heap.size ∧ (F k).at w ∧
  w.cell? ⟨b, off + k * 11, none⟩ = some (.string (F k).d.name) ∧ w.cell? ⟨b, off + k * 11 + 1, none⟩ = some (.int .u8 (F k).d.kind) ∧ w.cell? ⟨b, off + k * 11 + 2, none⟩ = some (.int .i64 (F k).d.inn) ∧
  w.cell? ⟨b, off + k * 11 + 3, none⟩ = some (.int .i64 (F k).d.on) ∧ w.cell? ⟨b, off + k * 11 + 4, none⟩ = some (.int .u8 (F k).d.event) ∧ w.cell? ⟨b, off + k * 11 + 5, none⟩ = some (.string (F k).d.key) ∧
  w.cell? ⟨b, off + k * 11 + 6, none⟩ = some (.string (F k).d.text) ∧ w.cell? ⟨b, off + k * 11 + 7, none⟩ = some (.string (F k).d.set) ∧ w.cell? ⟨b, off + k * 11 + 8, none⟩ = some (.bool (F k).d.breaks) ∧
  w.cell? ⟨b, off + k * 11 + 9, none⟩ = some (.slice (F k).o (F k).m (F k).c) ∧ w.cell? ⟨b, off + k * 11 + 10, none⟩ = some (.slice (F k).p (F k).n (F k).q)
theorem NdA.below {w wr : World} {o : Option Addr} {n : Nat} {F : Nat → Nod} (h : NdA w o n F) (hb : Below w.heap.size w wr) : NdA wr o n F := fun k hk => by
  obtain ⟨b, off, h1, h2, ha, h3⟩ := h k hk
  refine ⟨b, off, h1, Nat.lt_of_lt_of_le h2 hb.size, ha.below hb, ?_⟩
  simp only [fun o => hb.cell (p := ⟨b, o, none⟩) h2]
  exact h3
theorem NdA.less {w : World} {o : Option Addr} {n m : Nat} {F : Nat → Nod} (h : NdA w o n F) (hm : m ≤ n) : NdA w o m F := fun k hk => h k (by omega)
/-- the cells of a slice of flows -/
def FlA (w : World) (o : Option Addr) (n : Nat) (F : Nat → Fl) : Prop := ∀ k, k < n → ∃ b off, o = some ⟨b, off, none⟩ ∧ b < w.heap.size ∧
  w.cell? ⟨b, off + k * 4, none⟩ = some (.int .i64 (F k).fr) ∧ w.cell? ⟨b, off + k * 4 + 1, none⟩ = some (.int .i64 (F k).to) ∧ w.cell? ⟨b, off + k * 4 + 2, none⟩ = some (.string (F k).iff) ∧ w.cell? ⟨b, off + k * 4 + 3, none⟩ = some (.bool (F k).els)
theorem FlA.below {w wr : World} {o : Option Addr} {n : Nat} {F : Nat → Fl} (h : FlA w o n F) (hb : Below w.heap.size w wr) : FlA wr o n F := fun k hk => by
  obtain ⟨b, off, h1, h2, h3⟩ := h k hk
  refine ⟨b, off, h1, Nat.lt_of_lt_of_le h2 hb.size, ?_⟩
  simp only [fun o => hb.cell (p := ⟨b, o, none⟩) h2]
  exact h3
/-- a process -/
structure Pr where
  name : ByteArray
  vo : Option Addr
  vm : Nat
  vc : Nat
  vf : Nat → Va
  no : Option Addr
  nn : Nat
  nc : Nat
  nf : Nat → Nod
  fo : Option Addr
  fn : Nat
  fc : Nat
  ff : Nat → Fl
abbrev Pr.cs (x : Pr) : Array Value := #[.string x.name, .slice x.vo x.vm x.vc, .slice x.no x.nn x.nc, .slice x.fo x.fn x.fc]
def Pr.fit (x : Pr) : Prop := x.name.size ≤ 9223372036854775807 ∧ (∀ k, (x.vf k).fit) ∧ (∀ k, (x.nf k).fit) ∧ (∀ k, (x.ff k).fit) ∧ x.vm ≤ 9223372036854775807 ∧ x.nn ≤ 9223372036854775807 ∧ x.fn ≤ 9223372036854775807 ∧ x.vm ≤ x.vc ∧ x.nn ≤ x.nc ∧ x.fn ≤ x.fc
structure Pr.at (w : World) (x : Pr) : Prop where
  v : Vr w x.vo x.vm x.vf
  n : NdA w x.no x.nn x.nf
  f : FlA w x.fo x.fn x.ff
theorem Pr.at.below {w wr : World} {x : Pr} (h : x.at w) (hb : Below w.heap.size w wr) : x.at wr := ⟨h.v.below hb, h.n.below hb, h.f.below hb⟩
/-- the first error from k on, m times -/
def firstE (e : Nat → Nat) : Nat → Nat → Nat
  | _, 0 => 0
  | k, m + 1 => if e k ≠ 0 then e k else firstE e (k + 1) m
theorem firstE_at (e : Nat → Nat) (k n : Nat) (h : k < n) : firstE e k (n - k) = if e k ≠ 0 then e k else firstE e (k + 1) (n - (k + 1)) := by
  have : n - k = n - (k + 1) + 1 := by omega
  rw [this, firstE]
theorem firstE_end (e : Nat → Nat) (n : Nat) : firstE e n (n - n) = 0 := by rw [Nat.sub_self, firstE]
def Pr.e (x : Pr) : Nat :=
  if 40 < x.nn ∨ 80 < x.fn then 40 else if x.nn = 0 ∨ isName x.name = false then 4 else
  if varsE x.vm x.vf ≠ 0 then varsE x.vm x.vf else
  if firstE (fun k => (x.nf k).e) 0 x.nn ≠ 0 then firstE (fun k => (x.nf k).e) 0 x.nn else firstE (fun k => flowE (x.ff k)) 0 x.fn
theorem varsE_cases (m : Nat) (f : Nat → Va) : varsE m f = 0 ∨ varsE m f = 4 ∨ varsE m f = 40 := by unfold varsE; split; exact .inr (.inr rfl); split; exact .inl rfl; exact .inr (.inl rfl)
theorem flowE_cases (f : Fl) : flowE f = 0 ∨ flowE f = 4 ∨ flowE f = 40 := by unfold flowE; split; exact .inr (.inr rfl); split; exact .inr (.inl rfl); exact .inl rfl
theorem Nod.e_cases (x : Nod) : x.e = 0 ∨ x.e = 4 ∨ x.e = 40 := by unfold Nod.e nodeE; split; exact .inr (.inr rfl); split; exact .inl rfl; exact .inr (.inl rfl)
end Go.Proofs.YtjakdbahopbggaaGreatDoor
end
/- What model.Process returns. Conditions: the tables as laid; lengths are lengths. -/
section
namespace Go.Proofs.YtjakdbahopbggaaGreatDoor
open Go.RowKit Go.Ow

set_option maxRecDepth 100000 in
set_option maxHeartbeats 8000000 in
theorem proc_few {A : Nat → Nat × Nat} (x : Pr) (w : World) (hG : Gl A w) (hx : x.fit) (h : (40 < x.nn ∨ 80 < x.fn) ∨ x.nn = 0 ∨ isName x.name = false) :
    Calls Tryz.prog 66 #[.agg x.cs] w fun r w' => r = .returned (.int .i64 x.e) ∧ Below w.heap.size w w' := by
  have HB := Lib.hid ((Below.refl w.heap.size w).alloc (Nat.le_refl _) (.cells x.cs 64))
  obtain ⟨h1, h2, h3, h4, h5, h6, h7, h8, h9, h10⟩ := hx
  have NM := name_any x.name (w.alloc (.cells x.cs 64)) (hG.below HB.out) h1
  clear h2 h3 h4 hG
  by_cases a1 : 40 < x.nn
  · have HE : Hid (x.e = 40) := Lib.hid (by unfold Pr.e; rw [if_pos (.inl a1)])
    clear h NM
    go_enter Tryz.func66, Tryz.ntmps66
    go_wp2
    go_ret
    exact ⟨ret_int (by rw [HE.out]; rfl), HB.out⟩
  · have a1' : x.nn ≤ 40 := by omega
    by_cases a2 : 80 < x.fn
    · have HE : Hid (x.e = 40) := Lib.hid (by unfold Pr.e; rw [if_pos (.inr a2)])
      clear h NM
      go_enter Tryz.func66, Tryz.ntmps66
      go_wp2
      go_ret
      exact ⟨ret_int (by rw [HE.out]; rfl), HB.out⟩
    · have a2' : x.fn ≤ 80 := by omega
      by_cases a3 : x.nn = 0
      · have HE : Hid (x.e = 4) := Lib.hid (by unfold Pr.e; rw [if_neg (by omega), if_pos (.inl a3)])
        have a4 : ((x.nn : Int) == 0) = true := by simp [a3]
        clear h NM a3
        go_enter Tryz.func66, Tryz.ntmps66
        go_wp2
        go_ret
        exact ⟨ret_int (by rw [HE.out]; rfl), HB.out⟩
      · have a4 : ((x.nn : Int) == 0) = false := by simp [a3]
        have a5 : isName x.name = false := by
          rcases h with h | h | h
          · exact absurd h (by omega)
          · exact absurd h a3
          · exact h
        have HE : Hid (x.e = 4) := Lib.hid (by unfold Pr.e; rw [if_neg (by omega), if_pos (.inr a5)])
        rw [a5] at NM
        have NM := Lib.hid NM
        clear h a5
        go_enter Tryz.func66, Tryz.ntmps66
        go_wp2_with (go_at_call 90; refine NM.out.mono ?_; rintro e w1 ⟨rfl, hb⟩)
        go_ret
        exact ⟨ret_int (by rw [HE.out]; rfl), below_step HB.out hb⟩
theorem Pr.e_of {x : Pr} (h1 : x.nn ≤ 40) (h2 : x.fn ≤ 80) (h3 : x.nn ≠ 0) (h4 : isName x.name = true) : x.e = if varsE x.vm x.vf ≠ 0 then varsE x.vm x.vf else
  if firstE (fun k => (x.nf k).e) 0 x.nn ≠ 0 then firstE (fun k => (x.nf k).e) 0 x.nn else firstE (fun k => flowE (x.ff k)) 0 x.fn := by
  unfold Pr.e
  rw [if_neg (by omega), if_neg (by rw [h4]; simp [h3])]

set_option maxRecDepth 100000 in
set_option maxHeartbeats 8000000 in
theorem proc_any {A : Nat → Nat × Nat} (x : Pr) (w : World) (hG : Gl A w) (h : x.at w) (hx : x.fit) :
    Calls Tryz.prog 66 #[.agg x.cs] w fun r w' => r = .returned (.int .i64 x.e) ∧ Below w.heap.size w w' := by
  by_cases hq : (40 < x.nn ∨ 80 < x.fn) ∨ x.nn = 0 ∨ isName x.name = false
  · exact proc_few x w hG hx hq
  have HB0 := Lib.hid ((Below.refl w.heap.size w).alloc (Nat.le_refl _) (.cells x.cs 64))
  obtain ⟨h1, h2, h3, h4, h5, h6, h7, h8, h9, h10⟩ := hx
  have a1 : x.nn ≤ 40 := by omega
  have a2 : x.fn ≤ 80 := by omega
  have a0 : x.nn ≠ 0 := fun h => hq (.inr (.inl h))
  have a3 : ((x.nn : Int) == 0) = false := by simp [a0]
  have a4 : isName x.name = true := by cases hn : isName x.name; exact absurd (.inr (.inr hn)) hq; rfl
  have HE := Lib.hid (Pr.e_of a1 a2 a0 a4)
  have NM := name_any x.name (w.alloc (.cells x.cs 64)) (hG.below HB0.out) h1
  rw [a4] at NM
  have NM := Lib.hid NM
  have VR := fun (W : World) (hb : Below w.heap.size w W) => vars_any x.vo x.vm x.vc x.vf W (hG.below hb) (h.v.below hb) h2 h5 h8
  have AT := Lib.hid h
  have HG := Lib.hid hG
  have H3 := Lib.hid h3
  have H4 := Lib.hid h4
  clear h2 h3 h4 hG h a0 a4 hq
  obtain ⟨W0, hW0⟩ : ∃ W, w.alloc (.cells x.cs 64) = W := ⟨_, rfl⟩
  have b1 : W0.cell? ⟨w.heap.size, 1, none⟩ = some (.slice x.vo x.vm x.vc) := by rw [← hW0]; simp
  have b2 : W0.cell? ⟨w.heap.size, 2, none⟩ = some (.slice x.no x.nn x.nc) := by rw [← hW0]; simp
  have b3 : W0.cell? ⟨w.heap.size, 3, none⟩ = some (.slice x.fo x.fn x.fc) := by rw [← hW0]; simp
  have hl : w.heap.size < W0.heap.size := by rw [← hW0]; simp
  have HL := Lib.hid hl
  have B1 := Lib.hid b1
  have B2 := Lib.hid b2
  have B3 := Lib.hid b3
  have HW := Lib.hid hW0
  clear b1 b2 b3 hl hW0
  rcases varsE_cases x.vm x.vf with hv | hv | hv
  case inr.inl =>
    have HR : Hid (x.e = 4) := Lib.hid (by rw [HE.out, hv]; rfl)
    simp only [hv] at VR
    have VR := Lib.hid VR
    clear hv
    go_enter Tryz.func66, Tryz.ntmps66
    go_wp2_with (first | (go_at_call 90; refine NM.out.mono ?_; rintro e w1 ⟨rfl, hb⟩; have HB1 := Lib.hid (below_step HB0.out hb); have c1 : w1.cell? ⟨w.heap.size, 1, none⟩ = some (.slice x.vo x.vm x.vc) := (by rw [hb.cell (p := ⟨w.heap.size, 1, none⟩) (by simp)]; simp); clear hb) | (go_at_call 91; refine (VR.out _ HB1.out).mono ?_; rintro e w2 ⟨rfl, hb⟩))
    go_ret
    exact ⟨ret_int (by rw [HR.out]; rfl), below_step HB1.out hb⟩
  case inr.inr =>
    have HR : Hid (x.e = 40) := Lib.hid (by rw [HE.out, hv]; rfl)
    simp only [hv] at VR
    have VR := Lib.hid VR
    clear hv
    go_enter Tryz.func66, Tryz.ntmps66
    go_wp2_with (first | (go_at_call 90; refine NM.out.mono ?_; rintro e w1 ⟨rfl, hb⟩; have HB1 := Lib.hid (below_step HB0.out hb); have c1 : w1.cell? ⟨w.heap.size, 1, none⟩ = some (.slice x.vo x.vm x.vc) := (by rw [hb.cell (p := ⟨w.heap.size, 1, none⟩) (by simp)]; simp); clear hb) | (go_at_call 91; refine (VR.out _ HB1.out).mono ?_; rintro e w2 ⟨rfl, hb⟩))
    go_ret
    exact ⟨ret_int (by rw [HR.out]; rfl), below_step HB1.out hb⟩
  case inl =>
    have HR := HE.out
    rw [hv] at HR
    simp only [ne_eq, not_true_eq_false, if_false] at HR
    have HR := Lib.hid HR
    simp only [hv] at VR
    have VR := Lib.hid VR
    clear hv HE
    obtain ⟨r1, hr1⟩ : ∃ r, firstE (fun k => (x.nf k).e) 0 x.nn = r := ⟨_, rfl⟩
    obtain ⟨r2, hr2⟩ : ∃ r, firstE (fun k => flowE (x.ff k)) 0 x.fn = r := ⟨_, rfl⟩
    rw [hr1, hr2] at HR
    have HR1 := Lib.hid hr1
    have HR2 := Lib.hid hr2
    clear hr1 hr2
    go_enter Tryz.func66, Tryz.ntmps66
    go_wp2_with (first | (go_at_call 90; refine NM.out.mono ?_; rintro e w1 ⟨rfl, hb⟩; have HB1 := Lib.hid (by rw [← HW.out]; exact hb : Below W0.heap.size W0 w1); have c1 : w1.cell? ⟨w.heap.size, 1, none⟩ = some (.slice x.vo x.vm x.vc) := (by rw [hb.cell (p := ⟨w.heap.size, 1, none⟩) (by simp)]; simp); clear hb) | (go_at_call 91; refine (VR.out _ (below_step (by rw [← HW.out]; exact HB0.out) HB1.out)).mono ?_; rintro e w2 ⟨rfl, hb⟩; have HB2 := Lib.hid (below_step HB1.out hb); have c2 : w2.cell? ⟨w.heap.size, 2, none⟩ = some (.slice x.no x.nn x.nc) := (by rw [HB2.out.cell (p := ⟨w.heap.size, 2, none⟩) HL.out]; exact B2.out); clear hb c1))
    go_loopw [41] (fun i wr => ∃ k : Nat, k ≤ x.nn ∧ i = .int .i64 k ∧ Hid (firstE (fun k => (x.nf k).e) k (x.nn - k) = r1) ∧ Below W0.heap.size W0 wr) (fun i _ => x.nn - (intOf i).toNat)
    case atStart => exact ⟨0, Nat.zero_le _, rfl, HR1, HB2.out⟩
    case round =>
      clear c2
      obtain ⟨k, hk, rfl, HK, hB⟩ := hrel
      have HB := Lib.hid hB
      clear hB
      have HBW : Hid (Below w.heap.size w wr) := Lib.hid (below_step (by rw [← HW.out]; exact HB0.out) HB.out)
      by_cases hlt : k < x.nn
      · obtain ⟨b, off, hno, hb, hat, y0, y1, y2, y3, y4, y5, y6, y7, y8, y9, y10⟩ := (AT.out.n.below HBW.out) k hlt
        rw [hno]
        have E := Lib.hid (firstE_at (fun k => (x.nf k).e) k x.nn hlt)
        have CA := fun (W : World) (hbw : Below wr.heap.size wr W) => node_all (x.nf k) W (HG.out.below (below_step HBW.out hbw)) (hat.below hbw) (H3.out k)
        have hek := (x.nf k).e_cases
        obtain ⟨v, hv⟩ : ∃ v, x.nf k = v := ⟨_, rfl⟩
        simp only [hv] at y0 y1 y2 y3 y4 y5 y6 y7 y8 y9 y10 E CA hek
        have CA := Lib.hid CA
        have HA := Lib.hid ((Below.refl wr.heap.size wr).alloc (Nat.le_refl _) (.cells v.cs 111))
        clear hat hno hv
        rcases hek with e0 | e0 | e0
        · have HE : Hid (firstE (fun k => (x.nf k).e) (k + 1) (x.nn - (k + 1)) = r1) := Lib.hid (by have := HK.out; rw [E.out, e0] at this; simpa using this)
          rw [e0] at CA
          clear e0 E
          go_wp2_with (go_at_call 92; refine (CA.out _ HA.out).mono ?_; rintro e w3 ⟨rfl, hb3⟩; have HB3 := Lib.hid (below_step HB.out (below_step HA.out hb3)); clear hb3)
          go_roundw
          case rel => exact ⟨k + 1, by omega, by go_num, HE, HB3.out⟩
          case measure => simp [intOf]; omega
        · have HE : Hid (x.e = 4) := Lib.hid (by have := HK.out; rw [E.out, e0] at this; simp at this; rw [HR.out, ← this]; rfl)
          rw [e0] at CA
          clear e0 E
          go_wp2_with (go_at_call 92; refine (CA.out _ HA.out).mono ?_; rintro e w3 ⟨rfl, hb3⟩; have HB3 := Lib.hid (below_step HBW.out (below_step HA.out hb3)); clear hb3)
          go_ret
          exact ⟨ret_int (by rw [HE.out]; rfl), HB3.out⟩
        · have HE : Hid (x.e = 40) := Lib.hid (by have := HK.out; rw [E.out, e0] at this; simp at this; rw [HR.out, ← this]; rfl)
          rw [e0] at CA
          clear e0 E
          go_wp2_with (go_at_call 92; refine (CA.out _ HA.out).mono ?_; rintro e w3 ⟨rfl, hb3⟩; have HB3 := Lib.hid (below_step HBW.out (below_step HA.out hb3)); clear hb3)
          go_ret
          exact ⟨ret_int (by rw [HE.out]; rfl), HB3.out⟩
      · obtain rfl : k = x.nn := by omega
        have HE : Hid (x.e = r2) := Lib.hid (by have := HK.out; rw [firstE_end] at this; rw [HR.out, ← this]; rfl)
        have q3 : wr.cell? ⟨w.heap.size, 3, none⟩ = some (.slice x.fo x.fn x.fc) := by rw [HB.out.cell (p := ⟨w.heap.size, 3, none⟩) HL.out]; exact B3.out
        clear HK HR
        go_wp2
        obtain ⟨wo, rfl⟩ : ∃ wo : World, wo = wr := ⟨_, rfl⟩
        go_loopw [54] (fun i wr => ∃ k : Nat, k ≤ x.fn ∧ i = .int .i64 k ∧ Hid (firstE (fun k => flowE (x.ff k)) k (x.fn - k) = r2) ∧ Below W0.heap.size W0 wr) (fun i _ => x.fn - (intOf i).toNat)
        case atStart => exact ⟨0, Nat.zero_le _, rfl, HR2, HB.out⟩
        case round =>
          clear q3 HB HBW
          obtain ⟨j, hj, rfl, HK, hB⟩ := hrel
          have HB := Lib.hid hB
          clear hB
          have HBW : Hid (Below w.heap.size w wr) := Lib.hid (below_step (by rw [← HW.out]; exact HB0.out) HB.out)
          by_cases hlt : j < x.fn
          · obtain ⟨b, off, hno, hb, y0, y1, y2, y3⟩ := (AT.out.f.below HBW.out) j hlt
            rw [hno]
            have E := Lib.hid (firstE_at (fun k => flowE (x.ff k)) j x.fn hlt)
            have CA := fun (W : World) => flow_any (x.ff j) W (H4.out j)
            have hek := flowE_cases (x.ff j)
            obtain ⟨v, hv⟩ : ∃ v, x.ff j = v := ⟨_, rfl⟩
            simp only [hv] at y0 y1 y2 y3 E CA hek
            have CA := Lib.hid CA
            have HA := Lib.hid ((Below.refl wr.heap.size wr).alloc (Nat.le_refl _) (.cells (flowC v) 114))
            clear hno hv
            rcases hek with e0 | e0 | e0
            · have HE2 : Hid (firstE (fun k => flowE (x.ff k)) (j + 1) (x.fn - (j + 1)) = r2) := Lib.hid (by have := HK.out; rw [E.out, e0] at this; simpa using this)
              rw [e0] at CA
              clear e0 E
              go_wp2_with (go_at_call 93; refine (CA.out _).mono ?_; rintro e w3 ⟨rfl, hb3⟩; have HB3 := Lib.hid (below_step HB.out (below_step HA.out hb3)); clear hb3)
              go_roundw
              case rel => exact ⟨j + 1, by omega, by go_num, HE2, HB3.out⟩
              case measure => simp [intOf]; omega
            · have HE2 : Hid (x.e = 4) := Lib.hid (by have := HK.out; rw [E.out, e0] at this; simp at this; rw [HE.out, ← this])
              rw [e0] at CA
              clear e0 E
              go_wp2_with (go_at_call 93; refine (CA.out _).mono ?_; rintro e w3 ⟨rfl, hb3⟩; have HB3 := Lib.hid (below_step HBW.out (below_step HA.out hb3)); clear hb3)
              go_ret
              exact ⟨ret_int (by rw [HE2.out]; rfl), HB3.out⟩
            · have HE2 : Hid (x.e = 40) := Lib.hid (by have := HK.out; rw [E.out, e0] at this; simp at this; rw [HE.out, ← this])
              rw [e0] at CA
              clear e0 E
              go_wp2_with (go_at_call 93; refine (CA.out _).mono ?_; rintro e w3 ⟨rfl, hb3⟩; have HB3 := Lib.hid (below_step HBW.out (below_step HA.out hb3)); clear hb3)
              go_ret
              exact ⟨ret_int (by rw [HE2.out]; rfl), HB3.out⟩
          · obtain rfl : j = x.fn := by omega
            have HE2 : Hid (x.e = 0) := Lib.hid (by have := HK.out; rw [firstE_end] at this; rw [HE.out, ← this])
            go_wp2
            go_ret
            exact ⟨ret_int (by rw [HE2.out]; rfl), HBW.out⟩
end Go.Proofs.YtjakdbahopbggaaGreatDoor
end
