/- A node, a flow and a process as data in memory. Conditions: none. -/
import Derived.Test.YtblebjgjomamdaaDoorMFlow
import Derived.Test.YtblebjgjomamdaaDoorMNode
namespace Go.Proofs.YtblebjgjomamdaaDoor
open Go.RowKit Go.Ow

/-- a node with its two slices -/
structure Nod where
  d : Nd
  o : Option Addr
  m : Nat
  c : Nat
  f : Nat → Va
  p : Option Addr
  n : Nat
  q : Nat
  g : Nat → ByteArray
abbrev Nod.cs (x : Nod) : Array Value := nodeC x.d (.slice x.o x.m x.c) (.slice x.p x.n x.q)
def Nod.fit (x : Nod) : Prop := x.d.fit ∧ (∀ k, (x.f k).fit) ∧ (∀ k, (x.g k).size ≤ 9223372036854775807) ∧ x.m ≤ 9223372036854775807 ∧ x.n ≤ 9223372036854775807 ∧ x.m ≤ x.c ∧ x.n ≤ x.q
def Nod.at (w : World) (x : Nod) : Prop := Vr w x.o x.m x.f ∧ Ss w x.p x.n x.g
theorem Nod.at.below {w wr : World} {x : Nod} (h : x.at w) (hb : Below w.heap.size w wr) : x.at wr := ⟨h.1.below hb, h.2.below hb⟩
def Nod.e (x : Nod) : Nat := nodeE x.d x.m x.f x.n x.g

set_option maxRecDepth 100000 in
set_option maxHeartbeats 4000000 in
theorem node_large (d : Nd) (o1 p1 : Option Addr) (m1 c1 n1 q1 : Nat) (w : World) (hm : m1 ≤ 9223372036854775807) (hn : n1 ≤ 9223372036854775807) (hd : d.text.size ≤ 9223372036854775807)
    (h : 100 < d.text.size ∨ 8 < m1 ∨ 8 < n1) :
    Calls Tryd.prog 34 #[.agg (nodeC d (.slice o1 m1 c1) (.slice p1 n1 q1))] w fun r w' => r = .returned (.int .i64 40) ∧ Below w.heap.size w w' := by
  have HB := Lib.hid ((Below.refl w.heap.size w).alloc (Nat.le_refl _) (.cells (nodeC d (.slice o1 m1 c1) (.slice p1 n1 q1)) 41))
  by_cases a1 : 100 < d.text.size
  · clear h
    go_enter Tryd.func34, Tryd.ntmps34
    go_wp2
    go_ret
    exact ⟨rfl, HB.out⟩
  · have a1' : d.text.size ≤ 100 := by omega
    by_cases a2 : 8 < m1
    · clear h
      go_enter Tryd.func34, Tryd.ntmps34
      go_wp2
      go_ret
      exact ⟨rfl, HB.out⟩
    · have a2' : m1 ≤ 8 := by omega
      have a3 : 8 < n1 := by omega
      clear h
      go_enter Tryd.func34, Tryd.ntmps34
      go_wp2
      go_ret
      exact ⟨rfl, HB.out⟩
theorem node_all {A : Nat → Nat × Nat} (x : Nod) (w : World) (hG : Gl A w) (h : x.at w) (hx : x.fit) :
    Calls Tryd.prog 34 #[.agg x.cs] w fun r w' => r = .returned (.int .i64 x.e) ∧ Below w.heap.size w w' := by
  obtain ⟨h1, h2, h3, h4, h5, h6, h7⟩ := hx
  by_cases hl : 100 < x.d.text.size ∨ 8 < x.m ∨ 8 < x.n
  · have he : x.e = 40 := by unfold Nod.e nodeE; rw [if_pos hl]
    rw [he]
    exact node_large x.d x.o x.p x.m x.c x.n x.q w h4 h5 h1.2.2.2.2.2.2.2.2.1 hl
  · exact node_any x.d x.o x.p x.m x.c x.n x.q x.f x.g w hG h.1 h.2 h2 h3 h4 h5 h6 h7 h1 (by omega) (by omega) (by omega)

/-- the cells of a slice of nodes -/
def NdA (w : World) (o : Option Addr) (n : Nat) (F : Nat → Nod) : Prop := ∀ k, k < n → ∃ b off, o = some ⟨b, off, none⟩ ∧ b < w.heap.size ∧ (F k).at w ∧
  w.cell? ⟨b, off + k * 11, none⟩ = some (.string (F k).d.name) ∧ w.cell? ⟨b, off + k * 11 + 1, none⟩ = some (.int .u8 (F k).d.kind) ∧ w.cell? ⟨b, off + k * 11 + 2, none⟩ = some (.int .i64 (F k).d.inn) ∧
  w.cell? ⟨b, off + k * 11 + 3, none⟩ = some (.int .i64 (F k).d.on) ∧ w.cell? ⟨b, off + k * 11 + 4, none⟩ = some (.int .u8 (F k).d.event) ∧ w.cell? ⟨b, off + k * 11 + 5, none⟩ = some (.string (F k).d.key) ∧
  w.cell? ⟨b, off + k * 11 + 6, none⟩ = some (.string (F k).d.text) ∧ w.cell? ⟨b, off + k * 11 + 7, none⟩ = some (.string (F k).d.set) ∧ w.cell? ⟨b, off + k * 11 + 8, none⟩ = some (.bool (F k).d.breaks) ∧
  w.cell? ⟨b, off + k * 11 + 9, none⟩ = some (.slice (F k).o (F k).m (F k).c) ∧ w.cell? ⟨b, off + k * 11 + 10, none⟩ = some (.slice (F k).p (F k).n (F k).q)
theorem NdA.below {w wr : World} {o : Option Addr} {n : Nat} {F : Nat → Nod} (h : NdA w o n F) (hb : Below w.heap.size w wr) : NdA wr o n F := fun k hk => by
  obtain ⟨b, off, h1, h2, ha, h3⟩ := h k hk
  refine ⟨b, off, h1, Nat.lt_of_lt_of_le h2 hb.size, ha.below hb, ?_⟩
  simp only [fun o => hb.cell (p := ⟨b, o, none⟩) h2]
  exact h3
theorem NdA.less {w : World} {o : Option Addr} {n m : Nat} {F : Nat → Nod} (h : NdA w o n F) (hm : m ≤ n) : NdA w o m F := fun k hk => h k (by omega)
/-- the cells of a slice of flows -/
def FlA (w : World) (o : Option Addr) (n : Nat) (F : Nat → Fl) : Prop := ∀ k, k < n → ∃ b off, o = some ⟨b, off, none⟩ ∧ b < w.heap.size ∧
  w.cell? ⟨b, off + k * 4, none⟩ = some (.int .i64 (F k).fr) ∧ w.cell? ⟨b, off + k * 4 + 1, none⟩ = some (.int .i64 (F k).to) ∧ w.cell? ⟨b, off + k * 4 + 2, none⟩ = some (.string (F k).iff) ∧ w.cell? ⟨b, off + k * 4 + 3, none⟩ = some (.bool (F k).els)
theorem FlA.below {w wr : World} {o : Option Addr} {n : Nat} {F : Nat → Fl} (h : FlA w o n F) (hb : Below w.heap.size w wr) : FlA wr o n F := fun k hk => by
  obtain ⟨b, off, h1, h2, h3⟩ := h k hk
  refine ⟨b, off, h1, Nat.lt_of_lt_of_le h2 hb.size, ?_⟩
  simp only [fun o => hb.cell (p := ⟨b, o, none⟩) h2]
  exact h3
/-- a process -/
structure Pr where
  name : ByteArray
  vo : Option Addr
  vm : Nat
  vc : Nat
  vf : Nat → Va
  no : Option Addr
  nn : Nat
  nc : Nat
  nf : Nat → Nod
  fo : Option Addr
  fn : Nat
  fc : Nat
  ff : Nat → Fl
abbrev Pr.cs (x : Pr) : Array Value := #[.string x.name, .slice x.vo x.vm x.vc, .slice x.no x.nn x.nc, .slice x.fo x.fn x.fc]
def Pr.fit (x : Pr) : Prop := x.name.size ≤ 9223372036854775807 ∧ (∀ k, (x.vf k).fit) ∧ (∀ k, (x.nf k).fit) ∧ (∀ k, (x.ff k).fit) ∧ x.vm ≤ 9223372036854775807 ∧ x.nn ≤ 9223372036854775807 ∧ x.fn ≤ 9223372036854775807 ∧ x.vm ≤ x.vc ∧ x.nn ≤ x.nc ∧ x.fn ≤ x.fc
structure Pr.at (w : World) (x : Pr) : Prop where
  v : Vr w x.vo x.vm x.vf
  n : NdA w x.no x.nn x.nf
  f : FlA w x.fo x.fn x.ff
theorem Pr.at.below {w wr : World} {x : Pr} (h : x.at w) (hb : Below w.heap.size w wr) : x.at wr := ⟨h.v.below hb, h.n.below hb, h.f.below hb⟩
/-- the first error from k on, m times -/
def firstE (e : Nat → Nat) : Nat → Nat → Nat
  | _, 0 => 0
  | k, m + 1 => if e k ≠ 0 then e k else firstE e (k + 1) m
theorem firstE_at (e : Nat → Nat) (k n : Nat) (h : k < n) : firstE e k (n - k) = if e k ≠ 0 then e k else firstE e (k + 1) (n - (k + 1)) := by
  have : n - k = n - (k + 1) + 1 := by omega
  rw [this, firstE]
theorem firstE_end (e : Nat → Nat) (n : Nat) : firstE e n (n - n) = 0 := by rw [Nat.sub_self, firstE]
def Pr.e (x : Pr) : Nat :=
  if 40 < x.nn ∨ 80 < x.fn then 40 else if x.nn = 0 ∨ isName x.name = false then 4 else
  if varsE x.vm x.vf ≠ 0 then varsE x.vm x.vf else
  if firstE (fun k => (x.nf k).e) 0 x.nn ≠ 0 then firstE (fun k => (x.nf k).e) 0 x.nn else firstE (fun k => flowE (x.ff k)) 0 x.fn
theorem varsE_cases (m : Nat) (f : Nat → Va) : varsE m f = 0 ∨ varsE m f = 4 ∨ varsE m f = 40 := by unfold varsE; split; exact .inr (.inr rfl); split; exact .inl rfl; exact .inr (.inl rfl)
theorem flowE_cases (f : Fl) : flowE f = 0 ∨ flowE f = 4 ∨ flowE f = 40 := by unfold flowE; split; exact .inr (.inr rfl); split; exact .inr (.inl rfl); exact .inl rfl
theorem Nod.e_cases (x : Nod) : x.e = 0 ∨ x.e = 4 ∨ x.e = 40 := by unfold Nod.e nodeE; split; exact .inr (.inr rfl); split; exact .inl rfl; exact .inr (.inl rfl)
end Go.Proofs.YtblebjgjomamdaaDoor
