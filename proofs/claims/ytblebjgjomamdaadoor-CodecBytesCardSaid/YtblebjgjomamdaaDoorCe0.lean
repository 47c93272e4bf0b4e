/- The bytes of a node, a flow and a process, and what the writer's calls for them come to. Conditions: the bytes are not too many. -/
import Derived.Test.YtblebjgjomamdaaDoorCw2
import Derived.Test.YtblebjgjomamdaaDoorCs
import Derived.Test.YtblebjgjomamdaaDoorMProc
namespace Go.Proofs.YtblebjgjomamdaaDoor
open Go.RowKit Go.Ow Go.Wi

def Nod.fitW (y : Nod) : Prop := y.d.name.size ≤ 90000 ∧ y.d.key.size ≤ 90000 ∧ y.d.text.size ≤ 90000 ∧ y.d.set.size ≤ 90000 ∧ (∀ k, k < y.m → (y.f k).fitW) ∧ (∀ k, k < y.n → (y.g k).size ≤ 90000) ∧ y.m ≤ 100000 ∧ y.n ≤ 100000
def inc (n : Int) : Int := IntKind.i64.wrap (n + 1)
def nod4 (y : Nod) : List Int := [y.d.kind, inc y.d.inn, inc y.d.on, y.d.event]
def nodB (y : Nod) : List UInt8 := txt y.d.name ++ (nums (nAt (nod4 y)) 0 4 ++ (txts (tAt [y.d.key, y.d.text, y.d.set]) 0 3 ++ (numL (b2n y.d.breaks) ++ (vsL y.m y.f ++ (numL y.n ++ txts y.g 0 y.n)))))
def nodW (y : Nod) : Bool := numsW (nAt (nod4 y)) 0 4
def nodsB (f : Nat → Nod) : Nat → Nat → List UInt8
  | _, 0 => []
  | k, n + 1 => nodB (f k) ++ nodsB f (k + 1) n
def nodsW (f : Nat → Nod) : Nat → Nat → Bool
  | _, 0 => false
  | k, n + 1 => nodW (f k) || nodsW f (k + 1) n
theorem nodsB_at (f : Nat → Nod) (k n : Nat) (h : k < n) : nodsB f k (n - k) = nodB (f k) ++ nodsB f (k + 1) (n - (k + 1)) := by
  have : n - k = n - (k + 1) + 1 := by omega
  rw [this, nodsB]
theorem nodsB_end (f : Nat → Nod) (n : Nat) : nodsB f n (n - n) = [] := by rw [Nat.sub_self, nodsB]
theorem nodsW_at (f : Nat → Nod) (k n : Nat) (h : k < n) : nodsW f k (n - k) = (nodW (f k) || nodsW f (k + 1) (n - (k + 1))) := by
  have : n - k = n - (k + 1) + 1 := by omega
  rw [this, nodsW]
theorem nodsW_end (f : Nat → Nod) (n : Nat) : nodsW f n (n - n) = false := by rw [Nat.sub_self, nodsW]
def floB (y : Fl) : List UInt8 := nums (nAt [y.fr, y.to]) 0 2 ++ (txt y.iff ++ numL (b2n y.els))
def floW (y : Fl) : Bool := numsW (nAt [y.fr, y.to]) 0 2
def flosB (f : Nat → Fl) : Nat → Nat → List UInt8
  | _, 0 => []
  | k, n + 1 => floB (f k) ++ flosB f (k + 1) n
def flosW (f : Nat → Fl) : Nat → Nat → Bool
  | _, 0 => false
  | k, n + 1 => floW (f k) || flosW f (k + 1) n
theorem flosB_at (f : Nat → Fl) (k n : Nat) (h : k < n) : flosB f k (n - k) = floB (f k) ++ flosB f (k + 1) (n - (k + 1)) := by
  have : n - k = n - (k + 1) + 1 := by omega
  rw [this, flosB]
theorem flosB_end (f : Nat → Fl) (n : Nat) : flosB f n (n - n) = [] := by rw [Nat.sub_self, flosB]
theorem flosW_at (f : Nat → Fl) (k n : Nat) (h : k < n) : flosW f k (n - k) = (floW (f k) || flosW f (k + 1) (n - (k + 1))) := by
  have : n - k = n - (k + 1) + 1 := by omega
  rw [this, flosW]
theorem flosW_end (f : Nat → Fl) (n : Nat) : flosW f n (n - n) = false := by rw [Nat.sub_self, flosW]
/-- a process's bytes, without the sum -/
def prB (x : Pr) : List UInt8 := txt x.name ++ (vsL x.vm x.vf ++ (numL x.nn ++ (nodsB x.nf 0 x.nn ++ (numL x.fn ++ flosB x.ff 0 x.fn))))
def prW (x : Pr) : Bool := nodsW x.nf 0 x.nn || flosW x.ff 0 x.fn
def Pr.fitW (x : Pr) : Prop := x.name.size ≤ 90000 ∧ (∀ k, k < x.vm → (x.vf k).fitW) ∧ (∀ k, k < x.nn → (x.nf k).fitW) ∧ (∀ k, k < x.fn → (x.ff k).iff.size ≤ 90000) ∧ x.vm ≤ 100000 ∧ x.nn ≤ 100000 ∧ x.fn ≤ 100000

/-- what a call of a writer's method over a new slice leads to, from the bytes L on -/
abbrev TxS (W : Nat) (L L' : List UInt8) (wd wd' : Bool) (f : FuncId) (n : Nat) (cs : Array Value) (t : TypeId) : Prop :=
  ∀ w z, Wt w W L wd → w.heap.size = z → Calls Tryd.prog f #[pt W, .slice (some ⟨z, 0, none⟩) n n] (w.alloc (.cells cs t)) fun e w' => e = .returned (.tuple #[]) ∧ But W w w' ∧ Wt w' W L' wd'
theorem tx_texts (W : Nat) (L : List UInt8) (wd : Bool) (ts : List ByteArray) (n : Nat) (cs : Array Value) (h : cs.toList = ts.map Value.string) (hn : ts.length = n) (hn2 : n ≤ 1000) (hf : ∀ x ∈ ts, x.size ≤ 90000) (hl : L.length + (txts (tAt ts) 0 n).length ≤ 900000) :
    TxS W L (L ++ txts (tAt ts) 0 n) wd wd 16 n cs 9 := fun w z hT hz => by subst hz; exact texts_new W L wd ts n n cs 9 w hT h hn (by omega) hf hl
theorem tx_nums (W : Nat) (L : List UInt8) (wd : Bool) (ts : List Int) (n : Nat) (cs : Array Value) (h : cs.toList = ts.map (Value.int .i64)) (hn : ts.length = n) (hn2 : n ≤ 1000) (hl : L.length + (nums (nAt ts) 0 n).length ≤ 900000) :
    TxS W L (L ++ nums (nAt ts) 0 n) wd (wd || numsW (nAt ts) 0 n) 18 n cs 3 := fun w z hT hz => by subst hz; exact nums_new W L wd ts n n cs 3 w hT h hn (by omega) hl
theorem tx_len (W : Nat) (L : List UInt8) (wd : Bool) (n : Nat) (hn : n ≤ 100000) (hl : L.length + (numL n).length ≤ 900000) :
    TxS W L (L ++ numL n) wd wd 18 1 #[.int .i64 n] 3 := by
  have := tx_nums W L wd [(n : Int)] 1 #[.int .i64 n] rfl rfl (by omega) (by rw [nums_one]; exact hl)
  rw [nums_one, numsW_len hn, Bool.or_false] at this
  exact this
theorem tx_text (W : Nat) (L : List UInt8) (wd : Bool) (t : ByteArray) (ht : t.size ≤ 90000) (hl : L.length + (txt t).length ≤ 900000) :
    TxS W L (L ++ txt t) wd wd 16 1 #[.string t] 9 := by
  have := tx_texts W L wd [t] 1 #[.string t] rfl rfl (by omega) (by simpa using ht) (by rw [txts_one]; exact hl)
  rw [txts_one] at this
  exact this
/-- a truth's call; a call for variables; a call for texts that lie there -/
abbrev TxB (W : Nat) (L L' : List UInt8) (wd : Bool) (b : Bool) : Prop := ∀ w, Wt w W L wd → Calls Tryd.prog 19 #[pt W, .bool b] w fun e w' => e = .returned (.tuple #[]) ∧ But W w w' ∧ Wt w' W L' wd
abbrev TxV (W : Nat) (L L' : List UInt8) (wd : Bool) (o : Option Addr) (m c : Nat) (f : Nat → Va) : Prop := ∀ w, Wt w W L wd → Vr w o m f → Off o m W → Calls Tryd.prog 17 #[pt W, .slice o m c] w fun e w' => e = .returned (.tuple #[]) ∧ But W w w' ∧ Wt w' W L' wd
abbrev TxT (W : Nat) (L L' : List UInt8) (wd : Bool) (o : Option Addr) (m c : Nat) (f : Nat → ByteArray) : Prop := ∀ w, Wt w W L wd → Ss w o m f → Off o m W → Calls Tryd.prog 16 #[pt W, .slice o m c] w fun e w' => e = .returned (.tuple #[]) ∧ But W w w' ∧ Wt w' W L' wd

/-- all calls for a node -/
theorem node_hs (W : Nat) (y : Nod) (L0 : List UInt8) (wd : Bool) (hf : y.fitW) (hl : L0.length + (nodB y).length ≤ 600000) : ∃ (L1 L2 L3 L4 L5 L6 L7 : List UInt8) (wd2 : Bool), Hid (L7 = L0 ++ nodB y) ∧ Hid (wd2 = (wd || nodW y)) ∧
    Hid (TxS W L0 L1 wd wd 16 1 #[.string y.d.name] 9) ∧
    Hid (TxS W L1 L2 wd wd2 18 4 #[.int .i64 y.d.kind, .int .i64 (inc y.d.inn), .int .i64 (inc y.d.on), .int .i64 y.d.event] 3) ∧
    Hid (TxS W L2 L3 wd2 wd2 16 3 #[.string y.d.key, .string y.d.text, .string y.d.set] 9) ∧
    Hid (TxB W L3 L4 wd2 y.d.breaks) ∧ Hid (TxV W L4 L5 wd2 y.o y.m y.c y.f) ∧ Hid (TxS W L5 L6 wd2 wd2 18 1 #[.int .i64 y.n] 3) ∧ Hid (TxT W L6 L7 wd2 y.p y.n y.q y.g) := by
  obtain ⟨f1, f2, f3, f4, f5, f6, f7, f8⟩ := hf
  simp only [nodB, List.length_append] at hl
  refine ⟨_, _, _, _, _, _, _, _, ?_, ?_, Lib.hid (tx_text W L0 wd y.d.name f1 (by omega)), Lib.hid (tx_nums W _ wd (nod4 y) 4 _ rfl rfl (by omega) (by simp only [List.length_append]; omega)),
    Lib.hid (tx_texts W _ _ [y.d.key, y.d.text, y.d.set] 3 _ rfl rfl (by omega) (by simp only [List.mem_cons, List.not_mem_nil, or_false]; rintro x (rfl | rfl | rfl) <;> assumption) (by simp only [List.length_append]; omega)),
    Lib.hid (fun w hT => truth_wr W _ _ y.d.breaks w hT (by simp only [List.length_append]; omega)),
    Lib.hid (fun w hT hV hO => vars_wr W _ _ y.o y.m y.c y.f w hT hV hO f7 f5 (by simp only [List.length_append]; omega)),
    Lib.hid (tx_len W _ _ y.n f8 (by simp only [List.length_append]; omega)),
    Lib.hid (fun w hT hS hO => texts_any W _ _ y.p y.n y.q y.g w hT hS hO f8 f6 (by simp only [List.length_append]; omega))⟩
  · exact Lib.hid (by simp only [nodB, List.append_assoc])
  · exact Lib.hid rfl
/-- all calls for a flow -/
theorem flow_hs (W : Nat) (y : Fl) (L0 : List UInt8) (wd : Bool) (hf : y.iff.size ≤ 90000) (hl : L0.length + (floB y).length ≤ 600000) : ∃ (L1 L2 L3 : List UInt8) (wd2 : Bool), Hid (L3 = L0 ++ floB y) ∧ Hid (wd2 = (wd || floW y)) ∧
    Hid (TxS W L0 L1 wd wd2 18 2 #[.int .i64 y.fr, .int .i64 y.to] 3) ∧
    Hid (TxS W L1 L2 wd2 wd2 16 1 #[.string y.iff] 9) ∧
    Hid (TxB W L2 L3 wd2 y.els) := by
  simp only [floB, List.length_append] at hl
  refine ⟨_, _, _, _, ?_, ?_, Lib.hid (tx_nums W L0 wd [y.fr, y.to] 2 _ rfl rfl (by omega) (by omega)),
    Lib.hid (tx_text W _ _ y.iff hf (by simp only [List.length_append]; omega)),
    Lib.hid (fun w hT => truth_wr W _ _ y.els w hT (by simp only [List.length_append]; omega))⟩
  · exact Lib.hid (by simp only [floB, List.append_assoc])
  · exact Lib.hid rfl
/-- an old block, cell by cell -/
def Blk (w : World) (b : Nat) (cs : Array Value) (t : TypeId) : Prop := w.heap[b]? = some (.cells cs t (0, 0))
theorem Blk.lt {w : World} {b : Nat} {cs : Array Value} {t : TypeId} (h : Blk w b cs t) : b < w.heap.size := (Array.getElem?_eq_some_iff.1 h).1
theorem Blk.c {w : World} {b : Nat} {cs : Array Value} {t : TypeId} (h : Blk w b cs t) (i : Nat) : w.cell? ⟨b, i, none⟩ = cs[i]? := cell_of_row w b i cs t (0, 0) h
theorem Blk.but {w w' : World} {b W : Nat} {cs : Array Value} {t : TypeId} (h : Blk w b cs t) (hb : But W w w') (hne : b ≠ W) : Blk w' b cs t := by
  unfold Blk
  rw [hb.block b h.lt hne]
  exact h
theorem Blk.below {w w' : World} {b B : Nat} {cs : Array Value} {t : TypeId} (h : Blk w b cs t) (hb : Below B w w') (hlt : b < B) : Blk w' b cs t := by
  unfold Blk
  rw [hb.block b hlt]
  exact h
theorem blk_new (w : World) (cs : Array Value) (t : TypeId) : Blk (w.alloc (.cells cs t)) w.heap.size cs t := heap_alloc_new w _
theorem Off.vr {w : World} {o : Option Addr} {m W : Nat} {f : Nat → Va} (h : Vr w o m f) (hW : w.heap.size ≤ W) : Off o m W := by
  intro b' off' h' e hm
  obtain ⟨b, off, ho, hb, _⟩ := h 0 hm
  rw [ho] at e
  simp only [Option.some.injEq, Addr.mk.injEq] at e
  omega
theorem Off.ss {w : World} {o : Option Addr} {m W : Nat} {f : Nat → ByteArray} (h : Ss w o m f) (hW : w.heap.size ≤ W) : Off o m W := by
  intro b' off' h' e hm
  obtain ⟨b, off, ho, hb, _⟩ := h 0 hm
  rw [ho] at e
  simp only [Option.some.injEq, Addr.mk.injEq] at e
  omega
/-- a number and one -/
theorem wpList_inc {P : Program} {ops : Array Oper} {rest : List Oper} {o : Oper} {a : Act} {w : World} {Q : Exit → Act → World → Prop} (hgd : o.guard = none) (x y : Operand) (T T' : TypeId) (ho : o.op = .binOp .add T x y T')
    (m : Int) (hx : a.eval x = .int .i64 m) (hy : a.eval y = .int .i64 1) (h : wpList P ops Q rest (a.put o.dst (.int .i64 (inc m))) w) : wpList P ops Q (o :: rest) a w :=
  wpList_plain hgd fun K hK => by
    have e : (execOp a.eval o).run P w = .ok (.value (.int .i64 (IntKind.i64.wrap (m + 1)))) w := by
      unfold execOp
      simp only [ho, hx, hy]
      simp [go_sem]
    unfold Oper.wp
    rw [e]
    exact hK _ _ h
/-- Encode's world: the process in its box, the writer -/
structure ES (w : World) (x : Pr) (W : Nat) (l : List UInt8) (wd : Bool) (wr : World) : Prop where
  below : Below w.heap.size w wr
  box : Blk wr w.heap.size x.cs 28
  wt : Wt wr W l wd
  lt : w.heap.size < W
theorem ES.step {w : World} {x : Pr} {W : Nat} {l l' : List UInt8} {wd wd' : Bool} {wr wr' : World} (h : ES w x W l wd wr) (hb : But W wr wr') (ht : Wt wr' W l' wd') : ES w x W l' wd' wr' :=
  ⟨h.below.trans (hb.below (Nat.le_of_lt h.lt) (Nat.le_of_lt (Two.lt h.wt))), h.box.but hb (Nat.ne_of_lt h.lt), ht, h.lt⟩
theorem ES.new {w : World} {x : Pr} {w1 : World} (hb : Below w.heap.size w w1) (hx : Blk w1 w.heap.size x.cs 28) : ES w x w1.heap.size [] false (w1.alloc (.cells #[.string ⟨#[]⟩, .bool false] 53)) :=
  ⟨hb.alloc hb.size _, hx.below ((Below.refl _ _).alloc (Nat.le_refl _) _) hx.lt, blk_new _ _ _, hx.lt⟩
end Go.Proofs.YtblebjgjomamdaaDoor
