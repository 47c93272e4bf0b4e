/- The bytes of a node, a flow and a process, and what the writer's calls for them come to. Conditions: the bytes are not too many. -/
import Derived.Test.YtjakdbahopbggaaGreatDoorZK08
import Derived.Test.YtjakdbahopbggaaGreatDoorZK22
import Derived.Test.YtjakdbahopbggaaGreatDoorZK21
import Derived.Deep.LoopGhost
import Derived.Test.YtjakdbahopbggaaGreatDoorZOrd
section
namespace Go.Proofs.YtjakdbahopbggaaGreatDoor
open Go.RowKit Go.Ow Go.Wi

def Nod.fitW (y : Nod) : Prop := y.d.name.size ≤ 90000 ∧ y.d.key.size ≤ 90000 ∧ y.d.text.size ≤ 90000 ∧ y.d.set.size ≤ 90000 ∧ (∀ k, k < y.m → (y.f k).fitW) ∧ (∀ k, k < y.n → (y.g k).size ≤ 90000) ∧ y.m ≤ 100000 ∧ y.n ≤ 100000
def inc (n : Int) : Int := IntKind.i64.wrap (n + 1)
def nod4 (y : Nod) : List Int := [y.d.kind, inc y.d.inn, inc y.d.on, y.d.event]
def nodB (y : Nod) : List UInt8 := txt y.d.name ++ (nums (nAt (nod4 y)) 0 4 ++ (txts (tAt [y.d.key, y.d.text, y.d.set]) 0 3 ++ (numL (b2n y.d.breaks) ++ (vsL y.m y.f ++ (numL y.n ++ txts y.g 0 y.n)))))
def nodW (y : Nod) : Bool := numsW (nAt (nod4 y)) 0 4
def nodsB (f : Nat → Nod) : Nat → Nat → List UInt8
  | _, 0 => []
  | k, n + 1 => nodB (f k) ++ nodsB f (k + 1) n
def nodsW (f : Nat → Nod) : Nat → Nat → Bool
  | _, 0 => false
  | k, n + 1 => nodW (f k) || nodsW f (k + 1) n
theorem nodsB_at (f : Nat → Nod) (k n : Nat) (h : k < n) : nodsB f k (n - k) = nodB (f k) ++ nodsB f (k + 1) (n - (k + 1)) := by
  have : n - k = n - (k + 1) + 1 := by omega
  rw [this, nodsB]
theorem nodsB_end (f : Nat → Nod) (n : Nat) : nodsB f n (n - n) = [] := by rw [Nat.sub_self, nodsB]
theorem nodsW_at (f : Nat → Nod) (k n : Nat) (h : k < n) : nodsW f k (n - k) = (nodW (f k) || nodsW f (k + 1) (n - (k + 1))) := by
  have : n - k = n - (k + 1) + 1 := by omega
  rw [this, nodsW]
theorem nodsW_end (f : Nat → Nod) (n : Nat) : nodsW f n (n - n) = false := by rw [Nat.sub_self, nodsW]
def floB (y : Fl) : List UInt8 := nums (nAt [y.fr, y.to]) 0 2 ++ (txt y.iff ++ numL (b2n y.els))
def floW (y : Fl) : Bool := numsW (nAt [y.fr, y.to]) 0 2
def flosB (f : Nat → Fl) : Nat → Nat → List UInt8
  | _, 0 => []
  | k, n + 1 => floB (f k) ++ flosB f (k + 1) n
def flosW (f : Nat → Fl) : Nat → Nat → Bool
  | _, 0 => false
  | k, n + 1 => floW (f k) || flosW f (k + 1) n
theorem flosB_at (f : Nat → Fl) (k n : Nat) (h : k < n) : flosB f k (n - k) = floB (f k) ++ flosB f (k + 1) (n - (k + 1)) := by
  have : n - k = n - (k + 1) + 1 := by omega
  rw [this, flosB]
theorem flosB_end (f : Nat → Fl) (n : Nat) : flosB f n (n - n) = [] := by rw [Nat.sub_self, flosB]
theorem flosW_at (f : Nat → Fl) (k n : Nat) (h : k < n) : flosW f k (n - k) = (floW (f k) || flosW f (k + 1) (n - (k + 1))) := by
  have : n - k = n - (k + 1) + 1 := by omega
  rw [this, flosW]
theorem flosW_end (f : Nat → Fl) (n : Nat) : flosW f n (n - n) = false := by rw [Nat.sub_self, flosW]
/-- a process's bytes, without the sum -/
def prB (x : Pr) : List UInt8 := txt x.name ++ (vsL x.vm x.vf ++ (numL x.nn ++ (nodsB x.nf 0 x.nn ++ (numL x.fn ++ flosB x.ff 0 x.fn))))
def prW (x : Pr) : Bool := nodsW x.nf 0 x.nn || flosW x.ff 0 x.fn
def Pr.fitW (x : Pr) : Prop := x.name.size ≤ 90000 ∧ (∀ k, k < x.vm → (x.vf k).fitW) ∧ (∀ k, k < x.nn → (x.nf k).fitW) ∧ (∀ k, k < x.fn → (x.ff k).iff.size ≤ 90000) ∧ x.vm ≤ 100000 ∧ x.nn ≤ 100000 ∧ x.fn ≤ 100000

/-- what a call of a writer's method over a new slice leads to, from the bytes L on -/
abbrev TxS (W : Nat) (L L' : List UInt8) (wd wd' : Bool) (f : FuncId) (n : Nat) (cs : Array Value) (t : TypeId) : Prop :=
  ∀ w z, Wt w W L wd → w.heap.size = z → Calls Tryz.prog f #[pt W, .slice (some ⟨z, 0, none⟩) n n] (w.alloc (.cells cs t)) fun e w' => e = .returned (.tuple #[]) ∧ But W w w' ∧ Wt w' W L' wd'
theorem tx_texts (W : Nat) (L : List UInt8) (wd : Bool) (ts : List ByteArray) (n : Nat) (cs : Array Value) (h : cs.toList = ts.map Value.string) (hn : ts.length = n) (hn2 : n ≤ 1000) (hf : ∀ x ∈ ts, x.size ≤ 90000) (hl : L.length + (txts (tAt ts) 0 n).length ≤ 900000) :
    TxS W L (L ++ txts (tAt ts) 0 n) wd wd 68 n cs 9 := fun w z hT hz => by subst hz; exact texts_new W L wd ts n n cs 9 w hT h hn (by omega) hf hl
theorem tx_nums (W : Nat) (L : List UInt8) (wd : Bool) (ts : List Int) (n : Nat) (cs : Array Value) (h : cs.toList = ts.map (Value.int .i64)) (hn : ts.length = n) (hn2 : n ≤ 1000) (hl : L.length + (nums (nAt ts) 0 n).length ≤ 900000) :
    TxS W L (L ++ nums (nAt ts) 0 n) wd (wd || numsW (nAt ts) 0 n) 70 n cs 3 := fun w z hT hz => by subst hz; exact nums_new W L wd ts n n cs 3 w hT h hn (by omega) hl
theorem tx_len (W : Nat) (L : List UInt8) (wd : Bool) (n : Nat) (hn : n ≤ 100000) (hl : L.length + (numL n).length ≤ 900000) :
    TxS W L (L ++ numL n) wd wd 70 1 #[.int .i64 n] 3 := by
  have := tx_nums W L wd [(n : Int)] 1 #[.int .i64 n] rfl rfl (by omega) (by rw [nums_one]; exact hl)
  rw [nums_one, numsW_len hn, Bool.or_false] at this
  exact this
theorem tx_text (W : Nat) (L : List UInt8) (wd : Bool) (t : ByteArray) (ht : t.size ≤ 90000) (hl : L.length + (txt t).length ≤ 900000) :
    TxS W L (L ++ txt t) wd wd 68 1 #[.string t] 9 := by
  have := tx_texts W L wd [t] 1 #[.string t] rfl rfl (by omega) (by simpa using ht) (by rw [txts_one]; exact hl)
  rw [txts_one] at this
  exact this
/-- a truth's call; a call for variables; a call for texts that lie there -/
abbrev TxB (W : Nat) (L L' : List UInt8) (wd : Bool) (b : Bool) : Prop := ∀ w, Wt w W L wd → Calls Tryz.prog 71 #[pt W, .bool b] w fun e w' => e = .returned (.tuple #[]) ∧ But W w w' ∧ Wt w' W L' wd
abbrev TxV (W : Nat) (L L' : List UInt8) (wd : Bool) (o : Option Addr) (m c : Nat) (f : Nat → Va) : Prop := ∀ w, Wt w W L wd → Vr w o m f → Off o m W → Calls Tryz.prog 69 #[pt W, .slice o m c] w fun e w' => e = .returned (.tuple #[]) ∧ But W w w' ∧ Wt w' W L' wd
abbrev TxT (W : Nat) (L L' : List UInt8) (wd : Bool) (o : Option Addr) (m c : Nat) (f : Nat → ByteArray) : Prop := ∀ w, Wt w W L wd → Ss w o m f → Off o m W → Calls Tryz.prog 68 #[pt W, .slice o m c] w fun e w' => e = .returned (.tuple #[]) ∧ But W w w' ∧ Wt w' W L' wd

/-- all calls for a node -/
theorem node_hs (W : Nat) (y : Nod) (L0 : List UInt8) (wd : Bool) (hf : y.fitW) (hl : L0.length + (nodB y).length ≤ 600000) : ∃ (L1 L2 L3 L4 L5 L6 L7 : List UInt8) (wd2 : Bool), Hid (L7 = L0 ++ nodB y) ∧ Hid (wd2 = (wd || nodW y)) ∧
    Hid (TxS W L0 L1 wd wd 68 1 #[.string y.d.name] 9) ∧
    Hid (TxS W L1 L2 wd wd2 70 4 #[.int .i64 y.d.kind, .int .i64 (inc y.d.inn), .int .i64 (inc y.d.on), .int .i64 y.d.event] 3) ∧
    Hid (TxS W L2 L3 wd2 wd2 68 3 #[.string y.d.key, .string y.d.text, .string y.d.set] 9) ∧
    Hid (TxB W L3 L4 wd2 y.d.breaks) ∧ Hid (TxV W L4 L5 wd2 y.o y.m y.c y.f) ∧ Hid (TxS W L5 L6 wd2 wd2 70 1 #[.int .i64 y.n] 3) ∧ Hid (TxT W L6 L7 wd2 y.p y.n y.q y.g) := by
  obtain ⟨f1, f2, f3, f4, f5, f6, f7, f8⟩ := hf
  simp only [nodB, List.length_append] at hl
  refine ⟨_, _, _, _, _, _, _, _, ?_, ?_, Lib.hid (tx_text W L0 wd y.d.name f1 (by omega)), Lib.hid (tx_nums W _ wd (nod4 y) 4 _ rfl rfl (by omega) (by simp only [List.length_append]; omega)),
    Lib.hid (tx_texts W _ _ [y.d.key, y.d.text, y.d.set] 3 _ rfl rfl (by omega) (by simp only [List.mem_cons, List.not_mem_nil, or_false]; rintro x (rfl | rfl | rfl) <;> assumption) (by simp only [List.length_append]; omega)),
    Lib.hid (fun w hT => truth_wr W _ _ y.d.breaks w hT (by simp only [List.length_append]; omega)),
    Lib.hid (fun w hT hV hO => vars_wr W _ _ y.o y.m y.c y.f w hT hV hO f7 f5 (by simp only [List.length_append]; omega)),
    Lib.hid (tx_len W _ _ y.n f8 (by simp only [List.length_append]; omega)),
    Lib.hid (fun w hT hS hO => texts_any W _ _ y.p y.n y.q y.g w hT hS hO f8 f6 (by simp only [List.length_append]; omega))⟩
  · exact Lib.hid (by simp only [nodB, List.append_assoc])
  · exact Lib.hid rfl
/-- all calls for a flow -/
theorem flow_hs (W : Nat) (y : Fl) (L0 : List UInt8) (wd : Bool) (hf : y.iff.size ≤ 90000) (hl : L0.length + (floB y).length ≤ 600000) : ∃ (L1 L2 L3 : List UInt8) (wd2 : Bool), Hid (L3 = L0 ++ floB y) ∧ Hid (wd2 = (wd || floW y)) ∧
    Hid (TxS W L0 L1 wd wd2 70 2 #[.int .i64 y.fr, .int .i64 y.to] 3) ∧
    Hid (TxS W L1 L2 wd2 wd2 68 1 #[.string y.iff] 9) ∧
    Hid (TxB W L2 L3 wd2 y.els) := by
  simp only [floB, List.length_append] at hl
  refine ⟨_, _, _, _, ?_, ?_, Lib.hid (tx_nums W L0 wd [y.fr, y.to] 2 _ rfl rfl (by omega) (by omega)),
    Lib.hid (tx_text W _ _ y.iff hf (by simp only [List.length_append]; omega)),
    Lib.hid (fun w hT => truth_wr W _ _ y.els w hT (by simp only [List.length_append]; omega))⟩
  · exact Lib.hid (by simp only [floB, List.append_assoc])
  · exact Lib.hid rfl
/-- an old block, cell by cell -/
def Blk (w : World) (b : Nat) (cs : Array Value) (t : TypeId) : Prop := w.heap[b]? = some (.cells cs t (0, 0))
theorem Blk.lt {w : World} {b : Nat} {cs : Array Value} {t : TypeId} (h : Blk w b cs t) : b < w.heap.size := (Array.getElem?_eq_some_iff.1 h).1
theorem Blk.c {w : World} {b : Nat} {cs : Array Value} {t : TypeId} (h : Blk w b cs t) (i : Nat) : w.cell? ⟨b, i, none⟩ = cs[i]? := cell_of_row w b i cs t (0, 0) h
theorem Blk.but {w w' : World} {b W : Nat} {cs : Array Value} {t : TypeId} (h : Blk w b cs t) (hb : But W w w') (hne : b ≠ W) : Blk w' b cs t := by
  unfold Blk
  rw [hb.block b h.lt hne]
  exact h
theorem Blk.below {w w' : World} {b B : Nat} {cs : Array Value} {t : TypeId} (h : Blk w b cs t) (hb : Below B w w') (hlt : b < B) : Blk w' b cs t := by
  unfold Blk
  rw [hb.block b hlt]
  exact h
theorem blk_new (w : World) (cs : Array Value) (t : TypeId) : Blk (w.alloc (.cells cs t)) w.heap.size cs t := heap_alloc_new w _
theorem Off.vr {w : World} {o : Option Addr} {m W : Nat} {f : Nat → Va} (h : Vr w o m f) (hW : w.heap.size ≤ W) : Off o m W := by
  intro b' off' h' e hm
  obtain ⟨b, off, ho, hb, _⟩ := h 0 hm
  rw [ho] at e
  simp only [Option.some.injEq, Addr.mk.injEq] at e
  omega
theorem Off.ss {w : World} {o : Option Addr} {m W : Nat} {f : Nat → ByteArray} (h : Ss w o m f) (hW : w.heap.size ≤ W) : Off o m W := by
  intro b' off' h' e hm
  obtain ⟨b, off, ho, hb, _⟩ := h 0 hm
  rw [ho] at e
  simp only [Option.some.injEq, Addr.mk.injEq] at e
  omega
/-- a number and one -/
theorem wpList_inc {P : Program} {ops : Array Oper} {rest : List Oper} {o : Oper} {a : Act} {w : World} {Q : Exit → Act → World → Prop} (hgd : o.guard = none) (x y : Operand) (T T' : TypeId) (ho : o.op = .binOp .add T x y T')
    (m : Int) (hx : a.eval x = .int .i64 m) (hy : a.eval y = .int .i64 1) (h : wpList P ops Q rest (a.put o.dst (.int .i64 (inc m))) w) : wpList P ops Q (o :: rest) a w :=
  wpList_plain hgd fun K hK => by
    have e : (execOp a.eval o).run P w = .ok (.value (.int .i64 (IntKind.i64.wrap (m + 1)))) w := by
      unfold execOp
      simp only [ho, hx, hy]
      simp [go_sem]
    unfold Oper.wp
    rw [e]
    exact hK _ _ h
/-- Encode's world: the process in its box, the writer -/
structure ES (w : World) (x : Pr) (W : Nat) (l : List UInt8) (wd : Bool) (wr : World) : Prop where
  below : Below w.heap.size w wr
  box : Blk wr w.heap.size x.cs 64
  wt : Wt wr W l wd
  lt : w.heap.size < W
theorem ES.step {w : World} {x : Pr} {W : Nat} {l l' : List UInt8} {wd wd' : Bool} {wr wr' : World} (h : ES w x W l wd wr) (hb : But W wr wr') (ht : Wt wr' W l' wd') : ES w x W l' wd' wr' :=
  ⟨h.below.trans (hb.below (Nat.le_of_lt h.lt) (Nat.le_of_lt (Two.lt h.wt))), h.box.but hb (Nat.ne_of_lt h.lt), ht, h.lt⟩
theorem ES.new {w : World} {x : Pr} {w1 : World} (hb : Below w.heap.size w w1) (hx : Blk w1 w.heap.size x.cs 64) : ES w x w1.heap.size [] false (w1.alloc (.cells #[.string ⟨#[]⟩, .bool false] 139)) :=
  ⟨hb.alloc hb.size _, hx.below ((Below.refl _ _).alloc (Nat.le_refl _) _) hx.lt, blk_new _ _ _, hx.lt⟩
end Go.Proofs.YtjakdbahopbggaaGreatDoor
end
/- What the codec's reader reads: a variable, a list of variables, a list of texts. Conditions: the bytes are not too many. -/
section
namespace Go.Wi
/-- up to n things, one behind the other, until something is bad -/
def rep {α : Type} (one : Cs → α × Cs) : Nat → Cs → List α × Cs
  | 0, c => ([], c)
  | n + 1, c => if c.bad then ([], c) else ((one c).1 :: (rep one n (one c).2).1, (rep one n (one c).2).2)
def Cs.list {α : Type} (one : Cs → α × Cs) (c : Cs) : List α × Cs := rep one c.num.1 c.num.2
end Go.Wi
namespace Go.Proofs.YtjakdbahopbggaaGreatDoor
open Go.RowKit Go.Ow Go.Wi

def vcell (v : Va) : List Value := [.string v.nm, .int .u8 v.k, .int .i64 v.n, .string v.t]
def scell (v : ByteArray) : List Value := [.string v]

theorem But.heap' {w : World} {k i : Nat} {cs : Array Value} {t : TypeId} {v : Value} (h : Blk w k cs t) : Blk (w.setCell ⟨k, i, none⟩ v) k (cs.setIfInBounds i v) t := But.heap h
theorem RdC.dr {w : World} {b B : Nat} {c : Cs} (h : RdC w b B c) : RdC w.drew b B c := ⟨h.wr, h.cr, h.ne⟩
theorem Blk.bu2 {w w' : World} {k b B : Nat} {cs : Array Value} {t : TypeId} (h : Blk w k cs t) (hb : Bu2 b B w w') (h1 : k ≠ b) (h2 : k ≠ B) : Blk w' k cs t := by
  unfold Blk
  rw [hb.block k h.lt h1 h2]
  exact h
theorem Blk.fz {w : World} {b : Nat} {cs : Array Value} {t : TypeId} (h : Blk w b cs t) (i : Nat) : w.frozen? ⟨b, i, none⟩ = false := by
  have h' : w.heap[b]? = some (.cells cs t (0, 0)) := h
  unfold World.frozen?
  rw [h']
  simp



end Go.Proofs.YtjakdbahopbggaaGreatDoor
end
/- What the codec's reader reads: variables, a flow, a node. Conditions: the bytes are not too many. -/
section
namespace Go.Proofs.YtjakdbahopbggaaGreatDoor
open Go.RowKit Go.Ow Go.Wi

theorem ownC_ne {w : World} {B C k : Nat} {e t : TypeId} {n : Nat} {u : Value} {xs : List Value} {cs : Array Value} (h : w.ownsRow B e C u n xs) (hk : Blk w k cs t) (hne : e ≠ t) : ∀ g, u.ownBlock = some g → g ≠ k := by
  intro g hg e0
  subst e0
  rcases h.2 with ⟨rfl, _⟩ | ⟨g', cap, cur, rfl, _, hh, _⟩
  · simp [Value.ownBlock] at hg
  · simp only [Value.ownBlock, Option.some.injEq] at hg
    subst hg
    have hk' : w.heap[g']? = some (.cells cs t (0, 0)) := hk
    rw [hk'] at hh
    simp only [Option.some.injEq, Obj.cells.injEq] at hh
    exact hne hh.2.1.symm

/-- a function's result in block w.heap.size (zeros zs so far), its variable in block A2, the reader -/
structure ND (w : World) (b B A2 : Nat) (t : TypeId) (zs cs : Array Value) (c : Cs) (wr : World) : Prop where
  bu : Bu2 b B w wr
  rd : RdC wr b B c
  a : Blk wr w.heap.size zs t
  a2 : Blk wr A2 cs t
  lt : w.heap.size < A2
  lb : b < w.heap.size
  lB : B < w.heap.size
theorem ND.step {w wr wr' : World} {b B A2 : Nat} {t : TypeId} {zs cs : Array Value} {c c' : Cs} (h : ND w b B A2 t zs cs c wr) (hb : Bu2 b B wr wr') (hr : RdC wr' b B c') : ND w b B A2 t zs cs c' wr' :=
  ⟨h.bu.trans hb, hr, h.a.bu2 hb (Nat.ne_of_gt h.lb) (Nat.ne_of_gt h.lB), h.a2.bu2 hb (Nat.ne_of_gt (Nat.lt_trans h.lb h.lt)) (Nat.ne_of_gt (Nat.lt_trans h.lB h.lt)), h.lt, h.lb, h.lB⟩
theorem ND.set {w wr : World} {b B A2 : Nat} {t : TypeId} {zs cs : Array Value} {c : Cs} (h : ND w b B A2 t zs cs c wr) (i : Nat) (v : Value) : ND w b B A2 t zs (cs.setIfInBounds i v) c (wr.setCell ⟨A2, i, none⟩ v) :=
  ⟨h.bu.sn i v (Nat.le_of_lt h.lt), h.rd.sn i v (Nat.ne_of_lt (Nat.lt_trans h.lb h.lt)) (Nat.ne_of_lt (Nat.lt_trans h.lB h.lt)), by
    unfold Blk
    rw [Below.heap_setCell wr ⟨A2, i, none⟩ v w.heap.size (Nat.ne_of_lt h.lt)]
    exact h.a, But.heap' h.a2, h.lt, h.lb, h.lB⟩
theorem ND.new {w w1 : World} {b B : Nat} {t : TypeId} {zs cs : Array Value} {c : Cs} (hb : Bu2 b B (w.alloc (.cells zs t)) w1) (hr : RdC w1 b B c) (lb : b < w.heap.size) (lB : B < w.heap.size) : ND w b B w1.heap.size t zs cs c (w1.alloc (.cells cs t)) :=
  ⟨(((Bu2.refl b B w).al _).trans hb).al _, hr.al _, ((blk_new w zs t).bu2 hb (Nat.ne_of_gt lb) (Nat.ne_of_gt lB)).below ((Below.refl _ _).alloc (Nat.le_refl _) _) (by have := hb.size; simp at this; omega), blk_new _ _ _, by have := hb.size; simp at this; omega, lb, lB⟩

def fcell (v : Fl) : List Value := [.int .i64 v.fr, .int .i64 v.to, .string v.iff, .bool v.els]
/-- a node that is read -/
structure PNod where
  d : Nd
  vs : List Va
  bs : List ByteArray

end Go.Proofs.YtjakdbahopbggaaGreatDoor
end
/- What the codec's reader reads: a list of flows, a list of nodes. Conditions: the bytes are not too many. -/
section
namespace Go.Proofs.YtjakdbahopbggaaGreatDoor
open Go.RowKit Go.Ow Go.Wi


/-- a node's data; its rows are its own; its cells -/
def Nod.pn (y : Nod) : PNod := ⟨y.d, rowL y.f y.m, rowL y.g y.n⟩
def NodOwn (w : World) (B0 : Nat) (y : Nod) : Prop := w.ownsRow B0 148 4 (.slice y.o y.m y.c) y.m ((rowL y.f y.m).flatMap vcell) ∧ w.ownsRow B0 9 1 (.slice y.p y.n y.q) y.n ((rowL y.g y.n).flatMap scell) ∧ y.m ≤ y.c ∧ y.n ≤ y.q
def ncell (y : Nod) : List Value := y.cs.toList
theorem NodOwn.bu2 {w w' : World} {b B B0 : Nat} {y : Nod} (h : NodOwn w B0 y) (hb : Bu2 b B w w') (h1 : b < B0) (h2 : B < B0) : NodOwn w' B0 y := ⟨ownC_bu2 h.1 hb h1 h2, ownC_bu2 h.2.1 hb h1 h2, h.2.2⟩
theorem NodOwn.al {w : World} {B0 : Nat} {y : Nod} (h : NodOwn w B0 y) (o : Obj) : NodOwn (w.alloc o) B0 y := ⟨ownC_al h.1 o, ownC_al h.2.1 o, h.2.2⟩
theorem NodOwn.base {w : World} {B0 B1 : Nat} {y : Nod} (h : NodOwn w B0 y) (hB : B1 ≤ B0) : NodOwn w B1 y := ⟨ownC_base h.1 hB, ownC_base h.2.1 hB, h.2.2⟩
theorem NodOwn.grown {w w' : World} {B0 B1 n : Nat} {u : Value} {xs : List Value} {y : Nod} (h : NodOwn w B0 y) (ho : w.ownsRow B1 111 11 u n xs) (hg : w.grownBy w' u.ownBlock) : NodOwn w' B0 y := ⟨ownC_grown h.1 ho (by decide) hg, ownC_grown h.2.1 ho (by decide) hg, h.2.2⟩

end Go.Proofs.YtjakdbahopbggaaGreatDoor
end
/- A process that is read: its data, how it lies in memory, what its fields may be. Conditions: none. -/
section
namespace Go.Proofs.YtjakdbahopbggaaGreatDoor
open Go.RowKit Go.Ow Go.Wi

structure PPr where
  name : ByteArray
  vs : List Va
  ns : List PNod
  fs : List Fl
def Pr.pp (x : Pr) : PPr := ⟨x.name, rowL x.vf x.vm, (rowL x.nf x.nn).map Nod.pn, rowL x.ff x.fn⟩

-- what the fields may be
def PNod.fit (p : PNod) : Prop := p.d.fit ∧ (∀ v ∈ p.vs, v.fit) ∧ (∀ s ∈ p.bs, s.size ≤ 9223372036854775807)

-- how it lies
theorem own_rc {w : World} {B C : Nat} {e : TypeId} {n c : Nat} {o : Option Addr} {cell : Nat → List Value} (hC : ∀ i, (cell i).length = C) (h : w.ownsRow B e C (.slice o n c) n (rcs cell 0 n)) : n ≤ c ∧ Rc w C cell o n := by
  obtain ⟨o', c', e1, h1, h2, _⟩ := owns_rc hC h
  simp only [Value.slice.injEq, true_and] at e1
  obtain ⟨rfl, rfl⟩ := e1
  exact ⟨h1, h2⟩
theorem own_vr {w : World} {B n c : Nat} {o : Option Addr} {f : Nat → Va} (h : w.ownsRow B 148 4 (.slice o n c) n ((rowL f n).flatMap vcell)) : n ≤ c ∧ Vr w o n f := by
  rw [← rcs_row] at h
  have := own_rc (cell := varL f) (varL_len f) h
  exact ⟨this.1, this.2.vr⟩
theorem own_ss {w : World} {B n c : Nat} {o : Option Addr} {f : Nat → ByteArray} (h : w.ownsRow B 9 1 (.slice o n c) n ((rowL f n).flatMap scell)) : n ≤ c ∧ Ss w o n f := by
  rw [← rcs_row] at h
  have := own_rc (cell := strL f) (strL_len f) h
  exact ⟨this.1, this.2.ss⟩
theorem NodOwn.at {w : World} {B0 : Nat} {y : Nod} (h : NodOwn w B0 y) : y.at w := ⟨(own_vr h.1).2, (own_ss h.2.1).2⟩

end Go.Proofs.YtjakdbahopbggaaGreatDoor
end
/- What codec.Decode returns. Conditions: the tables as laid; the bytes are not too many. -/
section
namespace Go.Proofs.YtjakdbahopbggaaGreatDoor
open Go.RowKit Go.Ow Go.Wi

abbrev zP : Array Value := #[.string ⟨#[]⟩, .slice none 0 0, .slice none 0 0, .slice none 0 0]
/-- the codec's reader of bytes with their sum behind them -/
def cs0 (l : List UInt8) : Cs := ⟨⟨l.take (l.length - 4), 0⟩, false⟩

end Go.Proofs.YtjakdbahopbggaaGreatDoor
end
/- What codec.Decode returns for bytes with their sum behind them. Conditions: the tables as laid; at most 4000 bytes. -/
section
namespace Go.Proofs.YtjakdbahopbggaaGreatDoor
open Go.RowKit Go.Ow Go.Wi

/-- the world while the sums are compared -/
structure SS (w : World) (W : World) : Prop where
  below : Below w.heap.size w W
  a : Blk W w.heap.size zP 64
theorem SS.step {w W W' : World} (h : SS w W) (hb : Below W.heap.size W W') : SS w W' := ⟨below_step h.below hb, h.a.below hb h.a.lt⟩
/-- the world while the process is read -/
structure DS (w : World) (b B A2 : Nat) (cs : Array Value) (c : Cs) (wr : World) : Prop where
  below : Below w.heap.size w wr
  rd : RdC wr b B c
  a : Blk wr w.heap.size zP 64
  a2 : Blk wr A2 cs 64
  l1 : w.heap.size < b
  l2 : b < B
  l3 : B < A2
theorem DS.step {w wr wr' : World} {b B A2 : Nat} {cs : Array Value} {c c' : Cs} (h : DS w b B A2 cs c wr) (hb : Bu2 b B wr wr') (hr : RdC wr' b B c') : DS w b B A2 cs c' wr' := by
  have h1 := h.l1
  have h2 := h.l2
  have h3 := h.l3
  exact ⟨h.below.trans (hb.below (by omega) (by omega) h.below.size), hr, h.a.bu2 hb (by omega) (by omega), h.a2.bu2 hb (by omega) (by omega), h1, h2, h3⟩
theorem DS.set {w wr : World} {b B A2 : Nat} {cs : Array Value} {c : Cs} (h : DS w b B A2 cs c wr) (i : Nat) (v : Value) : DS w b B A2 (cs.setIfInBounds i v) c (wr.setCell ⟨A2, i, none⟩ v) := by
  have h1 := h.l1
  have h2 := h.l2
  have h3 := h.l3
  refine ⟨h.below.setCell (by show _ ≤ A2; omega) _, h.rd.sn i v (by omega) (by omega), ?_, But.heap' h.a2, h1, h2, h3⟩
  unfold Blk
  rw [Below.heap_setCell wr ⟨A2, i, none⟩ v w.heap.size (by show _ ≠ A2; omega)]
  exact h.a
theorem DS.s2 {w wr : World} {b B A2 : Nat} {a0 a1 a2 a3 : Value} {c : Cs} (h : DS w b B A2 #[a0, a1, a2, a3] c wr) (v : Value) : DS w b B A2 #[a0, a1, v, a3] c (wr.setCell ⟨A2, 2, none⟩ v) := h.set 2 v
theorem DS.s3 {w wr : World} {b B A2 : Nat} {a0 a1 a2 a3 : Value} {c : Cs} (h : DS w b B A2 #[a0, a1, a2, a3] c wr) (v : Value) : DS w b B A2 #[a0, a1, a2, v] c (wr.setCell ⟨A2, 3, none⟩ v) := h.set 3 v
theorem DS.new {w w2 : World} {b B : Nat} {cs : Array Value} {c : Cs} (hb : Below w.heap.size w w2) (ha : Blk w2 w.heap.size zP 64) (hr : RdC w2 b B c) (l1 : w.heap.size < b) (l2 : b < B) : DS w b B w2.heap.size cs c (w2.alloc (.cells cs 64)) :=
  ⟨hb.alloc hb.size _, hr.al _, ha.below ((Below.refl _ _).alloc (Nat.le_refl _) _) ha.lt, blk_new _ _ _, l1, l2, hr.cr.lt⟩
theorem NodOwn.sn {w : World} {B0 k o : Nat} {v : Value} {cs : Array Value} {y : Nod} (h : NodOwn w B0 y) (hk : Blk w k cs 64) : NodOwn (w.setCell ⟨k, o, none⟩ v) B0 y :=
  ⟨ownC_sn h.1 (ownC_ne h.1 hk (by decide)), ownC_sn h.2.1 (ownC_ne h.2.1 hk (by decide)), h.2.2⟩

/-- the rows that are read -/
def RowV (B0 : Nat) (o : Option Addr) (p : Nat) (vs : List Va) (wr : World) : Prop := wr.ownsRow B0 148 4 (.slice o vs.length p) vs.length (vs.flatMap vcell)
def RowN (B0 : Nat) (o : Option Addr) (p : Nat) (ys : List Nod) (wr : World) : Prop := wr.ownsRow B0 111 11 (.slice o ys.length p) ys.length (ys.flatMap ncell) ∧ ∀ y ∈ ys, NodOwn wr B0 y
def RowF (B0 : Nat) (o : Option Addr) (p : Nat) (fs : List Fl) (wr : World) : Prop := wr.ownsRow B0 114 4 (.slice o fs.length p) fs.length (fs.flatMap fcell)
theorem RowV.bu2 {w w' : World} {b B B0 p : Nat} {o : Option Addr} {vs : List Va} (h : RowV B0 o p vs w) (hb : Bu2 b B w w') (h1 : b < B0) (h2 : B < B0) : RowV B0 o p vs w' := ownC_bu2 h hb h1 h2
theorem RowN.bu2 {w w' : World} {b B B0 p : Nat} {o : Option Addr} {ys : List Nod} (h : RowN B0 o p ys w) (hb : Bu2 b B w w') (h1 : b < B0) (h2 : B < B0) : RowN B0 o p ys w' := ⟨ownC_bu2 h.1 hb h1 h2, fun y hy => (h.2 y hy).bu2 hb h1 h2⟩
theorem RowF.bu2 {w w' : World} {b B B0 p : Nat} {o : Option Addr} {fs : List Fl} (h : RowF B0 o p fs w) (hb : Bu2 b B w w') (h1 : b < B0) (h2 : B < B0) : RowF B0 o p fs w' := ownC_bu2 h hb h1 h2
theorem RowV.sn {w : World} {B0 p k i : Nat} {v : Value} {o : Option Addr} {vs : List Va} {cs : Array Value} (h : RowV B0 o p vs w) (hk : Blk w k cs 64) : RowV B0 o p vs (w.setCell ⟨k, i, none⟩ v) := ownC_sn h (ownC_ne h hk (by decide))
theorem RowN.sn {w : World} {B0 p k i : Nat} {v : Value} {o : Option Addr} {ys : List Nod} {cs : Array Value} (h : RowN B0 o p ys w) (hk : Blk w k cs 64) : RowN B0 o p ys (w.setCell ⟨k, i, none⟩ v) := ⟨ownC_sn h.1 (ownC_ne h.1 hk (by decide)), fun y hy => (h.2 y hy).sn hk⟩
theorem RowF.sn {w : World} {B0 p k i : Nat} {v : Value} {o : Option Addr} {fs : List Fl} {cs : Array Value} (h : RowF B0 o p fs w) (hk : Blk w k cs 64) : RowF B0 o p fs (w.setCell ⟨k, i, none⟩ v) := ownC_sn h (ownC_ne h hk (by decide))
theorem RowV.of {w : World} {B1 B0 p : Nat} {o : Option Addr} {vs : List Va} (h : w.ownsRow B1 148 4 (.slice o vs.length p) vs.length (vs.flatMap vcell)) (hB : B0 ≤ B1) : RowV B0 o p vs w := ownC_base h hB
theorem RowN.of {w : World} {B1 B0 p : Nat} {o : Option Addr} {ys : List Nod} (h : w.ownsRow B1 111 11 (.slice o ys.length p) ys.length (ys.flatMap ncell)) (hy : ∀ y ∈ ys, NodOwn w B1 y) (hB : B0 ≤ B1) : RowN B0 o p ys w := ⟨ownC_base h hB, fun y hy' => (hy y hy').base hB⟩
theorem RowF.of {w : World} {B1 B0 p : Nat} {o : Option Addr} {fs : List Fl} (h : w.ownsRow B1 114 4 (.slice o fs.length p) fs.length (fs.flatMap fcell)) (hB : B0 ≤ B1) : RowF B0 o p fs w := ownC_base h hB
theorem DS.start {w W W2 w1 w2 : World} {c2 : Cs} {o : Option Addr} {p : Nat} {vs : List Va} (hB : Below w.heap.size w W2) (hA : Blk W2 w.heap.size zP 64) (hb1 : Bu2 W.heap.size (W.heap.size + 1) W2 w1) (hb2 : Bu2 W.heap.size (W.heap.size + 1) w1 w2) (h2 : RdC w2 W.heap.size (W.heap.size + 1) c2)
    (ho : w2.ownsRow w1.heap.size 148 4 (.slice o vs.length p) vs.length (vs.flatMap vcell)) (hlt : w.heap.size < W.heap.size) (hz : W.heap.size + 2 ≤ W2.heap.size) (cs : Array Value) :
    DS w W.heap.size (W.heap.size + 1) w2.heap.size cs c2 (w2.alloc (.cells cs 64)) ∧ RowV (W.heap.size + 2) o p vs (w2.alloc (.cells cs 64)) := by
  have hb := hb1.trans hb2
  refine ⟨DS.new (hB.trans (hb.below (by omega) (by omega) (by omega))) (hA.bu2 hb (by omega) (by omega)) h2 hlt (by omega), ?_⟩
  exact ownC_al (ownC_base ho (by have := hb1.size; omega)) _
/-- behind the end of the bytes -/
theorem DS.fin {w : World} {b B A2 : Nat} {cs : Array Value} {c : Cs} {wr wr' : World} {r' : Rs} (h : DS w b B A2 cs c wr) (hb : But b wr wr') (hr : Wr.RdW wr' b r') : DS w b B A2 cs ⟨r', c.bad⟩ wr' :=
  h.step (.left hb) ⟨hr, h.rd.cr.kept hb (Ne.symm h.rd.ne), h.rd.ne⟩


end Go.Proofs.YtjakdbahopbggaaGreatDoor
end
