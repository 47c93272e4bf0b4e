/- A row of one's own beside the codec's reader: what stays when the reader reads, and when the row grows. Conditions: none. -/
import Derived.Test.YtblebjgjomamdaaDoorCr1
import Derived.Test.YtblebjgjomamdaaDoorMProc
import Derived.Deep.DeepAppendWide
import Derived.Lib.LazyBuf
namespace Go.Proofs.YtblebjgjomamdaaDoor
open Go.RowKit Go.Ow

/-- the cells of n elements, from number i on -/
def rcs (cell : Nat → List Value) : Nat → Nat → List Value
  | _, 0 => []
  | i, n + 1 => cell i ++ rcs cell (i + 1) n
theorem rcs_length {C : Nat} {cell : Nat → List Value} (hC : ∀ i, (cell i).length = C) : ∀ n i, (rcs cell i n).length = n * C
  | 0, _ => by simp [rcs]
  | n + 1, i => by rw [rcs, List.length_append, hC, rcs_length hC n (i + 1), Nat.add_mul]; omega
theorem rcs_one {cell : Nat → List Value} (h : ∀ i, ∀ u ∈ cell i, u.oneCell' = true) : ∀ n i, ∀ u ∈ rcs cell i n, u.oneCell' = true
  | 0, _ => by simp [rcs]
  | n + 1, i => by
    intro u hu
    rw [rcs] at hu
    rcases List.mem_append.1 hu with hu | hu
    · exact h i u hu
    · exact rcs_one h n (i + 1) u hu
theorem rcs_at {C : Nat} {cell : Nat → List Value} (hC : ∀ i, (cell i).length = C) : ∀ n i j r, j < n → r < C → (rcs cell i n)[j * C + r]? = (cell (i + j))[r]?
  | 0, _, _, _, h, _ => by omega
  | n + 1, i, 0, r, _, hr => by
    rw [rcs, List.getElem?_append_left (by rw [hC]; omega)]
    simp
  | n + 1, i, j + 1, r, h, hr => by
    rw [rcs, List.getElem?_append_right (by rw [hC, Nat.add_mul]; omega), hC, show (j + 1) * C + r - C = j * C + r by rw [Nat.add_mul]; omega, rcs_at hC n (i + 1) j r (by omega) hr, show i + 1 + j = i + (j + 1) by omega]
/-- the cells of a slice, C an element -/
def Rc (w : World) (C : Nat) (cell : Nat → List Value) (o : Option Addr) (m : Nat) : Prop := ∀ k, k < m → ∃ b off, o = some ⟨b, off, none⟩ ∧ b < w.heap.size ∧ ∀ r, r < C → w.cell? ⟨b, off + (k * C + r), none⟩ = (cell k)[r]?
theorem Rc.news {w : World} {C : Nat} {cell : Nat → List Value} {b off m : Nat} (hC : ∀ i, (cell i).length = C) (hp : 0 < C) (h : Rc w C cell (some ⟨b, off, none⟩) m) : ∀ j u, (rcs cell 0 m)[j]? = some u → w.cell? ((Addr.mk b off none).add j) = some u := by
  intro j u hj
  have hlt : j < m * C := by rw [← rcs_length hC m 0]; exact (List.getElem?_eq_some_iff.1 hj).1
  have hk : j / C < m := (Nat.div_lt_iff_lt_mul hp).2 hlt
  obtain ⟨b', off', e, hb, hc⟩ := h (j / C) hk
  simp only [Option.some.injEq, Addr.mk.injEq, and_true] at e
  obtain ⟨rfl, rfl⟩ := e
  have hd : j / C * C + j % C = j := Nat.div_add_mod' j C
  rw [Addr.add_lit]
  have h1 := hc (j % C) (Nat.mod_lt _ hp)
  have h2 := rcs_at hC m 0 (j / C) (j % C) hk (Nat.mod_lt _ hp)
  rw [hd, Nat.zero_add] at h2
  rw [hd] at h1
  rw [h1, ← h2]
  exact hj
/-- what owns such cells is a slice of them -/
theorem owns_rc {w : World} {B : Nat} {e : TypeId} {u : Value} {n C : Nat} {cell : Nat → List Value} (hC : ∀ i, (cell i).length = C) (h : w.ownsRow B e C u n (rcs cell 0 n)) : ∃ o c, u = .slice o n c ∧ n ≤ c ∧ Rc w C cell o n ∧ (0 < n → ∃ g, o = some ⟨g, 0, none⟩ ∧ B ≤ g ∧ ∃ cur, w.heap[g]? = some (.cells cur e (0, 0))) := by
  rcases h.2 with ⟨rfl, rfl⟩ | ⟨g, cap, cur, rfl, hb, hg, hn, hm, hs, ht⟩
  · exact ⟨none, 0, rfl, Nat.le_refl _, fun k hk => by omega, fun hn => by omega⟩
  · refine ⟨_, cap, rfl, hn, fun k hk => ⟨g, 0, rfl, (Array.getElem?_eq_some_iff.1 hg).1, fun r hr => ?_⟩, fun _ => ⟨g, rfl, hb, cur, hg⟩⟩
    rw [cell_of_row w g _ cur e (0, 0) hg, Nat.zero_add]
    have h1 := rcs_at hC n 0 k r hk hr
    have hlt : k * C + r < n * C := by
      have : (k + 1) * C ≤ n * C := Nat.mul_le_mul_right _ hk
      rw [Nat.add_mul] at this
      omega
    rw [← ht, List.getElem?_take, if_pos hlt, Array.getElem?_toList, Nat.zero_add] at h1
    exact h1
/-- an operation whose run is known -/
theorem wpList_run {P : Program} {ops : Array Oper} {rest : List Oper} {o : Oper} {a : Act} {w : World} {Q : Exit → Act → World → Prop} (hgd : o.guard = none) (v : Value) (w' : World)
    (hr : (execOp a.eval o).run P w = .ok (.value v) w') (h : wpList P ops Q rest (a.put o.dst v) w') : wpList P ops Q (o :: rest) a w :=
  wpList_plain hgd fun K hK => by
    unfold Oper.wp
    rw [hr]
    exact hK _ _ h
def varL (f : Nat → Va) (i : Nat) : List Value := [.string (f i).nm, .int .u8 (f i).k, .int .i64 (f i).n, .string (f i).t]
def flowL (f : Nat → Fl) (i : Nat) : List Value := (flowC (f i)).toList
def nodeL (f : Nat → Nod) (i : Nat) : List Value := (f i).cs.toList
def strL (f : Nat → ByteArray) (i : Nat) : List Value := [.string (f i)]
theorem Vr.rc {w : World} {o : Option Addr} {m : Nat} {f : Nat → Va} (h : Vr w o m f) : Rc w 4 (varL f) o m := fun k hk => by
  obtain ⟨b, off, e, hb, c0, c1, c2, c3⟩ := h k hk
  refine ⟨b, off, e, hb, fun r hr => ?_⟩
  have : r = 0 ∨ r = 1 ∨ r = 2 ∨ r = 3 := by omega
  rcases this with rfl | rfl | rfl | rfl
  · exact c0
  · exact c1
  · exact c2
  · exact c3
theorem Rc.vr {w : World} {o : Option Addr} {m : Nat} {f : Nat → Va} (h : Rc w 4 (varL f) o m) : Vr w o m f := fun k hk => by
  obtain ⟨b, off, e, hb, hc⟩ := h k hk
  exact ⟨b, off, e, hb, hc 0 (by omega), hc 1 (by omega), hc 2 (by omega), hc 3 (by omega)⟩
theorem FlA.rc {w : World} {o : Option Addr} {m : Nat} {f : Nat → Fl} (h : FlA w o m f) : Rc w 4 (flowL f) o m := fun k hk => by
  obtain ⟨b, off, e, hb, c0, c1, c2, c3⟩ := h k hk
  refine ⟨b, off, e, hb, fun r hr => ?_⟩
  have : r = 0 ∨ r = 1 ∨ r = 2 ∨ r = 3 := by omega
  rcases this with rfl | rfl | rfl | rfl
  · exact c0
  · exact c1
  · exact c2
  · exact c3
theorem Rc.fla {w : World} {o : Option Addr} {m : Nat} {f : Nat → Fl} (h : Rc w 4 (flowL f) o m) : FlA w o m f := fun k hk => by
  obtain ⟨b, off, e, hb, hc⟩ := h k hk
  exact ⟨b, off, e, hb, hc 0 (by omega), hc 1 (by omega), hc 2 (by omega), hc 3 (by omega)⟩
theorem Ss.rc {w : World} {o : Option Addr} {m : Nat} {f : Nat → ByteArray} (h : Ss w o m f) : Rc w 1 (strL f) o m := fun k hk => by
  obtain ⟨b, off, e, hb, c0⟩ := h k hk
  refine ⟨b, off, e, hb, fun r hr => ?_⟩
  obtain rfl : r = 0 := by omega
  rw [Nat.mul_one, Nat.add_zero]
  exact c0
theorem Rc.ss {w : World} {o : Option Addr} {m : Nat} {f : Nat → ByteArray} (h : Rc w 1 (strL f) o m) : Ss w o m f := fun k hk => by
  obtain ⟨b, off, e, hb, hc⟩ := h k hk
  have := hc 0 (by omega)
  rw [Nat.mul_one, Nat.add_zero] at this
  exact ⟨b, off, e, hb, this⟩
theorem NdA.rc {w : World} {o : Option Addr} {m : Nat} {f : Nat → Nod} (h : NdA w o m f) : Rc w 11 (nodeL f) o m := fun k hk => by
  obtain ⟨b, off, e, hb, _, c0, c1, c2, c3, c4, c5, c6, c7, c8, c9, c10⟩ := h k hk
  refine ⟨b, off, e, hb, fun r hr => ?_⟩
  have : r = 0 ∨ r = 1 ∨ r = 2 ∨ r = 3 ∨ r = 4 ∨ r = 5 ∨ r = 6 ∨ r = 7 ∨ r = 8 ∨ r = 9 ∨ r = 10 := by omega
  rcases this with rfl | rfl | rfl | rfl | rfl | rfl | rfl | rfl | rfl | rfl | rfl
  · exact c0
  · exact c1
  · exact c2
  · exact c3
  · exact c4
  · exact c5
  · exact c6
  · exact c7
  · exact c8
  · exact c9
  · exact c10
theorem Rc.nda {w : World} {o : Option Addr} {m : Nat} {f : Nat → Nod} (h : Rc w 11 (nodeL f) o m) (ha : ∀ k, k < m → (f k).at w) : NdA w o m f := fun k hk => by
  obtain ⟨b, off, e, hb, hc⟩ := h k hk
  exact ⟨b, off, e, hb, ha k hk, hc 0 (by omega), hc 1 (by omega), hc 2 (by omega), hc 3 (by omega), hc 4 (by omega), hc 5 (by omega), hc 6 (by omega), hc 7 (by omega), hc 8 (by omega), hc 9 (by omega), hc 10 (by omega)⟩
theorem varL_len (f : Nat → Va) (i : Nat) : (varL f i).length = 4 := rfl
theorem flowL_len (f : Nat → Fl) (i : Nat) : (flowL f i).length = 4 := rfl
theorem nodeL_len (f : Nat → Nod) (i : Nat) : (nodeL f i).length = 11 := rfl
theorem strL_len (f : Nat → ByteArray) (i : Nat) : (strL f i).length = 1 := rfl
theorem varL_one (f : Nat → Va) (i : Nat) : ∀ u ∈ varL f i, u.oneCell' = true := by
  intro u hu
  simp only [varL, List.mem_cons, List.not_mem_nil, or_false] at hu
  rcases hu with rfl | rfl | rfl | rfl <;> rfl
theorem flowL_one (f : Nat → Fl) (i : Nat) : ∀ u ∈ flowL f i, u.oneCell' = true := by
  intro u hu
  simp only [flowL, List.mem_cons, List.not_mem_nil, or_false] at hu
  rcases hu with rfl | rfl | rfl | rfl <;> rfl
theorem nodeL_one (f : Nat → Nod) (i : Nat) : ∀ u ∈ nodeL f i, u.oneCell' = true := by
  intro u hu
  simp only [nodeL, List.mem_cons, List.not_mem_nil, or_false] at hu
  rcases hu with rfl | rfl | rfl | rfl | rfl | rfl | rfl | rfl | rfl | rfl | rfl <;> rfl
theorem strL_one (f : Nat → ByteArray) (i : Nat) : ∀ u ∈ strL f i, u.oneCell' = true := by
  intro u hu
  simp only [strL, List.mem_cons, List.not_mem_nil, or_false] at hu
  subst hu
  rfl
set_option maxRecDepth 100000 in
/-- append to a row of one's own -/
theorem app_var (w : World) (B : Nat) (v : Value) (n : Nat) (xs : List Value) (hown : w.ownsRow B 49 4 v n xs) (a : Addr) (m c : Nat) (news : List Value) (hl : news.length = m * 4)
    (hnews : ∀ j u, news[j]? = some u → w.cell? (a.add j) = some u) (h1 : ∀ u ∈ news, u.oneCell' = true) (hb : n + m ≤ 1000000) (hbase : B ≤ w.heap.size) :
    ∃ v' w', (Builtin.append_ #[24, 24] 24 #[v, .slice (some a) m c]).run Tryd.prog w = .ok v' w' ∧ w'.ownsRow B 49 4 v' (n + m) (xs ++ news) ∧ w.grownBy w' v.ownBlock := by
  obtain ⟨v', w', h1', h2', h3', _⟩ := run_append_own_wide (P := Tryd.prog) w B 24 24 49 _ _ 4 48 Tryd.underlying24 (by rfl) (by rfl) (by rfl) (by rfl) (by rfl) (by decide) v n xs hown a m c news hl hnews h1 (by unfold maxLen; omega) (by omega) hbase
  exact ⟨v', w', h1', h2', h3'⟩
set_option maxRecDepth 100000 in
/-- append to a row of one's own -/
theorem app_flow (w : World) (B : Nat) (v : Value) (n : Nat) (xs : List Value) (hown : w.ownsRow B 35 4 v n xs) (a : Addr) (m c : Nat) (news : List Value) (hl : news.length = m * 4)
    (hnews : ∀ j u, news[j]? = some u → w.cell? (a.add j) = some u) (h1 : ∀ u ∈ news, u.oneCell' = true) (hb : n + m ≤ 1000000) (hbase : B ≤ w.heap.size) :
    ∃ v' w', (Builtin.append_ #[26, 26] 26 #[v, .slice (some a) m c]).run Tryd.prog w = .ok v' w' ∧ w'.ownsRow B 35 4 v' (n + m) (xs ++ news) ∧ w.grownBy w' v.ownBlock := by
  obtain ⟨v', w', h1', h2', h3', _⟩ := run_append_own_wide (P := Tryd.prog) w B 26 26 35 _ _ 4 40 Tryd.underlying26 (by rfl) (by rfl) (by rfl) (by rfl) (by rfl) (by decide) v n xs hown a m c news hl hnews h1 (by unfold maxLen; omega) (by omega) hbase
  exact ⟨v', w', h1', h2', h3'⟩
set_option maxRecDepth 100000 in
/-- append to a row of one's own -/
theorem app_node (w : World) (B : Nat) (v : Value) (n : Nat) (xs : List Value) (hown : w.ownsRow B 41 11 v n xs) (a : Addr) (m c : Nat) (news : List Value) (hl : news.length = m * 11)
    (hnews : ∀ j u, news[j]? = some u → w.cell? (a.add j) = some u) (h1 : ∀ u ∈ news, u.oneCell' = true) (hb : n + m ≤ 1000000) (hbase : B ≤ w.heap.size) :
    ∃ v' w', (Builtin.append_ #[25, 25] 25 #[v, .slice (some a) m c]).run Tryd.prog w = .ok v' w' ∧ w'.ownsRow B 41 11 v' (n + m) (xs ++ news) ∧ w.grownBy w' v.ownBlock := by
  obtain ⟨v', w', h1', h2', h3', _⟩ := run_append_own_wide (P := Tryd.prog) w B 25 25 41 _ _ 11 152 Tryd.underlying25 (by rfl) (by rfl) (by rfl) (by rfl) (by rfl) (by decide) v n xs hown a m c news hl hnews h1 (by unfold maxLen; omega) (by omega) hbase
  exact ⟨v', w', h1', h2', h3'⟩
set_option maxRecDepth 100000 in
/-- append to a row of one's own -/
theorem app_str (w : World) (B : Nat) (v : Value) (n : Nat) (xs : List Value) (hown : w.ownsRow B 9 1 v n xs) (a : Addr) (m c : Nat) (news : List Value) (hl : news.length = m * 1)
    (hnews : ∀ j u, news[j]? = some u → w.cell? (a.add j) = some u) (h1 : ∀ u ∈ news, u.oneCell' = true) (hb : n + m ≤ 1000000) (hbase : B ≤ w.heap.size) :
    ∃ v' w', (Builtin.append_ #[39, 39] 39 #[v, .slice (some a) m c]).run Tryd.prog w = .ok v' w' ∧ w'.ownsRow B 9 1 v' (n + m) (xs ++ news) ∧ w.grownBy w' v.ownBlock := by
  obtain ⟨v', w', h1', h2', h3', _⟩ := run_append_own_wide (P := Tryd.prog) w B 39 39 9 _ _ 1 16 Tryd.underlying39 (by rfl) (by rfl) (by rfl) (by rfl) (by rfl) (by decide) v n xs hown a m c news hl hnews h1 (by unfold maxLen; omega) (by omega) hbase
  exact ⟨v', w', h1', h2', h3'⟩
theorem ownC_mono {w w' : World} {B C : Nat} {e : TypeId} {n : Nat} {u : Value} {xs : List Value} (h : w.ownsRow B e C u n xs) (hb : Below w.heap.size w w') : w'.ownsRow B e C u n xs :=
  ⟨h.1, h.2.imp id fun ⟨g, cap, cur, a1, a2, a3, a4⟩ => ⟨g, cap, cur, a1, a2, by rw [hb.block g (Array.getElem?_eq_some_iff.1 a3).1]; exact a3, a4⟩⟩
theorem ownC_base {w : World} {B B' C : Nat} {e : TypeId} {n : Nat} {u : Value} {xs : List Value} (h : w.ownsRow B e C u n xs) (hB : B' ≤ B) : w.ownsRow B' e C u n xs :=
  ⟨h.1, h.2.imp id fun ⟨g, cap, cur, a1, a2, a3⟩ => ⟨g, cap, cur, a1, Nat.le_trans hB a2, a3⟩⟩
theorem ownC_blk {w : World} {B C : Nat} {e : TypeId} {n : Nat} {u : Value} {xs : List Value} (h : w.ownsRow B e C u n xs) : ∀ g, u.ownBlock = some g → B ≤ g ∧ g < w.heap.size := by
  intro g hg
  rcases h.2 with ⟨rfl, _⟩ | ⟨g', cap, cur, rfl, hb, hh, _⟩
  · simp [Value.ownBlock] at hg
  · simp [Value.ownBlock] at hg
    subst hg
    exact ⟨hb, (Array.getElem?_eq_some_iff.1 hh).1⟩
theorem ownC_form {w : World} {B C : Nat} {e : TypeId} {n : Nat} {u : Value} {xs : List Value} (h : w.ownsRow B e C u n xs) : ∃ o c, u = .slice o n c ∧ n ≤ c := by
  rcases h.2 with ⟨rfl, rfl⟩ | ⟨g, cap, cur, rfl, _, _, hn, _⟩
  · exact ⟨none, 0, rfl, Nat.le_refl _⟩
  · exact ⟨_, cap, rfl, hn⟩
theorem But.heap {G : Nat} {w : World} {o : Nat} {u : Value} {cur : Array Value} {e : TypeId} (h : w.heap[G]? = some (.cells cur e (0, 0))) : (w.setCell ⟨G, o, none⟩ u).heap[G]? = some (.cells (cur.setIfInBounds o u) e (0, 0)) := by
  simp [World.setCell, Array.getElem?_modify, h]
theorem cell_in {G : Nat} {w : World} {cur : Array Value} {e : TypeId} (h : w.heap[G]? = some (.cells cur e (0, 0))) (o : Nat) : w.cell? ⟨G, o, none⟩ = cur[o]? := cell_of_row w G o cur e (0, 0) h
theorem froz_in {G : Nat} {w : World} {cur : Array Value} {e : TypeId} (h : w.heap[G]? = some (.cells cur e (0, 0))) (o : Nat) : w.frozen? ⟨G, o, none⟩ = false := by
  unfold World.frozen?
  rw [h]
  simp
theorem ownC_bu2 {w w' : World} {b B B0 C : Nat} {e : TypeId} {n : Nat} {u : Value} {xs : List Value} (h : w.ownsRow B0 e C u n xs) (hb : Bu2 b B w w') (h1 : b < B0) (h2 : B < B0) : w'.ownsRow B0 e C u n xs :=
  ⟨h.1, h.2.imp id fun ⟨g, cap, cur, a1, a2, a3, a4⟩ => ⟨g, cap, cur, a1, a2, by rw [hb.block g (Array.getElem?_eq_some_iff.1 a3).1 (by omega) (by omega)]; exact a3, a4⟩⟩
theorem ownC_al {w : World} {B C : Nat} {e : TypeId} {n : Nat} {u : Value} {xs : List Value} (h : w.ownsRow B e C u n xs) (o : Obj) : (w.alloc o).ownsRow B e C u n xs := ownC_mono h ((Below.refl _ _).alloc (Nat.le_refl _) _)
theorem ownC_sn {w : World} {B C k o : Nat} {e : TypeId} {n : Nat} {u v : Value} {xs : List Value} (h : w.ownsRow B e C u n xs) (hk : ∀ g, u.ownBlock = some g → g ≠ k) : (w.setCell ⟨k, o, none⟩ v).ownsRow B e C u n xs :=
  ⟨h.1, h.2.imp id fun ⟨g, cap, cur, a1, a2, a3, a4⟩ => ⟨g, cap, cur, a1, a2, by rw [Below.heap_setCell w ⟨k, o, none⟩ v g (by subst a1; exact hk g rfl)]; exact a3, a4⟩⟩
/-- a row of another type grows: this one stays -/
theorem ownC_grown {w w' : World} {B B' C C' : Nat} {e e' : TypeId} {n n' : Nat} {u u' : Value} {xs xs' : List Value} (h : w.ownsRow B e C u n xs) (h' : w.ownsRow B' e' C' u' n' xs') (hne : e ≠ e') (hg : w.grownBy w' u'.ownBlock) : w'.ownsRow B e C u n xs :=
  ⟨h.1, h.2.imp id fun ⟨g, cap, cur, a1, a2, a3, a4⟩ => ⟨g, cap, cur, a1, a2, by
    rw [hg.block g (Array.getElem?_eq_some_iff.1 a3).1 (fun e0 => by
      rcases h'.2 with ⟨rfl, _⟩ | ⟨g', cap', cur', rfl, _, hh, _⟩
      · simp [Value.ownBlock] at e0
      · simp only [Value.ownBlock, Option.some.injEq] at e0
        subst e0
        rw [a3] at hh
        simp only [Option.some.injEq, Obj.cells.injEq] at hh
        exact hne hh.2.1)]
    exact a3, a4⟩⟩
theorem Two.grown {w w' : World} {b : Nat} {t : TypeId} {x y : Value} {row : Option Nat} {B0 : Nat} (h : Two w b t x y) (hg : w.grownBy w' row) (hr : ∀ g, row = some g → B0 ≤ g) (hb : b < B0) : Two w' b t x y := by
  unfold Two
  rw [hg.block b h.lt (fun e => by have := hr b e.symm; omega)]
  exact h
theorem RdC.grown {w w' : World} {b B : Nat} {c : Wi.Cs} {row : Option Nat} {B0 : Nat} (h : RdC w b B c) (hg : w.grownBy w' row) (hr : ∀ g, row = some g → B0 ≤ g) (hb : b < B0) (hB : B < B0) : RdC w' b B c :=
  ⟨Two.grown h.wr hg hr hb, Two.grown h.cr hg hr hB, h.ne⟩
theorem Bu2.grown {b B : Nat} {w0 w w' : World} {row : Option Nat} (h : Bu2 b B w0 w) (hg : w.grownBy w' row) (hr : ∀ g, row = some g → w0.heap.size ≤ g) : Bu2 b B w0 w' :=
  ⟨hg.os.trans h.os, hg.tape.trans h.tape, hg.output.trans h.output, Nat.le_trans h.size hg.size, fun i hi hb hB => (hg.block i (Nat.lt_of_lt_of_le hi h.size) (fun e => by have := hr i e.symm; omega)).trans (h.block i hi hb hB)⟩
/-- append of one element to a row of one's own -/
theorem wpList_appown {P : Program} (w : World) {ops : Array Oper} {rest : List Oper} {o : Oper} {a : Act} {Q : Exit → Act → World → Prop} (hgd : o.guard = none) (s x : Operand) (t : TypeId)
    (ho : o.op = .call { callee := .builtin .append, args := #[s, x], argTypes := #[t, t] })
    {base : Nat} {e : TypeId} {v : Value} {n : Nat} {xs : List Value} (i : TypeInfo) (z : Value) (size bytes : Nat) (ht : P.underlying t = some (.slice e)) (hi : P.info? e = some i) (hz : i.zero = some z) (hsize : i.size = size) (hby : i.bytes = bytes) (hzs : z.cells.size = size) (hsz : 0 < size)
    (hs : a.eval s = v) (h : w.ownsRow base e size v n xs)
    (g c : Nat) (cs : Array Value) (te : TypeId) (hx : a.eval x = .slice (some ⟨g, 0, none⟩) 1 c) (hg : w.heap[g]? = some (.cells cs te (0, 0))) (hl : cs.size = size) (h1 : ∀ u ∈ cs.toList, u.oneCell' = true)
    (hb : n ≤ 100000) (hby2 : bytes ≤ 1000) (hbase : base ≤ w.heap.size)
    (hK : ∀ v' w', w'.ownsRow base e size v' (n + 1) (xs ++ cs.toList) → w.grownBy w' v.ownBlock → wpList P ops Q rest (a.put o.dst v') w') : wpList P ops Q (o :: rest) a w := by
  refine wpList_plain hgd fun K hK' => ?_
  obtain ⟨v', w', hrun, r1, r2, _⟩ := run_append_own_wide (P := P) w base t o.type e i z size bytes ht hi hz hsize hby hzs hsz v n xs h ⟨g, 0, none⟩ 1 c cs.toList (by simp [hl]) (fun j u hj => by
    rw [Addr.add_lit, cell_of_row w g _ cs te (0, 0) hg, Nat.zero_add, ← Array.getElem?_toList]
    exact hj) h1 (by unfold maxLen; omega) (by
      have : ((n + 1) + (n + 1) / 4 + 192) * bytes ≤ ((n + 1) + (n + 1) / 4 + 192) * 1000 := Nat.mul_le_mul_left _ hby2
      omega) hbase
  unfold Oper.wp
  simp [execOp, ho, resolve, invoke, builtin, hs, hx, hrun, Result.andThen]
  exact hK' _ _ (hK v' w' r1 r2)
/-- a row given as a function is a list -/
def rowL {α : Type} (f : Nat → α) (n : Nat) : List α := (List.range n).map f
theorem rowL_len {α : Type} (f : Nat → α) (n : Nat) : (rowL f n).length = n := by simp [rowL]
def lAt {α : Type} (d : α) (l : List α) (k : Nat) : α := l.getD k d
theorem rowL_at {α : Type} (d : α) (l : List α) : rowL (lAt d l) l.length = l := by
  apply List.ext_getElem?
  intro i
  simp only [rowL, List.getElem?_map]
  by_cases h : i < l.length
  · rw [List.getElem?_range h, List.getElem?_eq_getElem h]
    simp [lAt, List.getD_eq_getElem?_getD, List.getElem?_eq_getElem h]
  · rw [List.getElem?_eq_none (by simpa using h), List.getElem?_eq_none (by simpa using h)]
    rfl
theorem rcs_flat {α : Type} (cell : α → List Value) (f : Nat → α) : ∀ n i, rcs (fun k => cell (f k)) i n = (((List.range' i n).map f).flatMap cell)
  | 0, i => by simp [rcs]
  | n + 1, i => by rw [rcs, rcs_flat cell f n (i + 1), List.range'_succ]; simp
theorem rcs_row {α : Type} (cell : α → List Value) (f : Nat → α) (n : Nat) : rcs (fun k => cell (f k)) 0 n = (rowL f n).flatMap cell := by
  rw [rcs_flat, rowL, List.range_eq_range']
end Go.Proofs.YtblebjgjomamdaaDoor
