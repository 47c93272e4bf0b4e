/- What slices.Clone returns over variables, nodes, flows and texts: a row of its own with the same cells. Conditions: at most 10000 elements. -/
import Derived.Test.YtdnelpmolenkoaaDoorMSameP
import Derived.Deep.DeepAppendWide
import Derived.Lib.LazyBuf
namespace Go.Proofs.YtdnelpmolenkoaaDoor
open Go.RowKit Go.Ow

/-- the cells of n elements, from number i on -/
def rcs (cell : Nat → List Value) : Nat → Nat → List Value
  | _, 0 => []
  | i, n + 1 => cell i ++ rcs cell (i + 1) n
theorem rcs_length {C : Nat} {cell : Nat → List Value} (hC : ∀ i, (cell i).length = C) : ∀ n i, (rcs cell i n).length = n * C
  | 0, _ => by simp [rcs]
  | n + 1, i => by rw [rcs, List.length_append, hC, rcs_length hC n (i + 1), Nat.add_mul]; omega
theorem rcs_one {cell : Nat → List Value} (h : ∀ i, ∀ u ∈ cell i, u.oneCell' = true) : ∀ n i, ∀ u ∈ rcs cell i n, u.oneCell' = true
  | 0, _ => by simp [rcs]
  | n + 1, i => by
    intro u hu
    rw [rcs] at hu
    rcases List.mem_append.1 hu with hu | hu
    · exact h i u hu
    · exact rcs_one h n (i + 1) u hu
theorem rcs_at {C : Nat} {cell : Nat → List Value} (hC : ∀ i, (cell i).length = C) : ∀ n i j r, j < n → r < C → (rcs cell i n)[j * C + r]? = (cell (i + j))[r]?
  | 0, _, _, _, h, _ => by omega
  | n + 1, i, 0, r, _, hr => by
    rw [rcs, List.getElem?_append_left (by rw [hC]; omega)]
    simp
  | n + 1, i, j + 1, r, h, hr => by
    rw [rcs, List.getElem?_append_right (by rw [hC, Nat.add_mul]; omega), hC, show (j + 1) * C + r - C = j * C + r by rw [Nat.add_mul]; omega, rcs_at hC n (i + 1) j r (by omega) hr, show i + 1 + j = i + (j + 1) by omega]
/-- the cells of a slice, C an element -/
def Rc (w : World) (C : Nat) (cell : Nat → List Value) (o : Option Addr) (m : Nat) : Prop := ∀ k, k < m → ∃ b off, o = some ⟨b, off, none⟩ ∧ b < w.heap.size ∧ ∀ r, r < C → w.cell? ⟨b, off + (k * C + r), none⟩ = (cell k)[r]?
theorem Rc.news {w : World} {C : Nat} {cell : Nat → List Value} {b off m : Nat} (hC : ∀ i, (cell i).length = C) (hp : 0 < C) (h : Rc w C cell (some ⟨b, off, none⟩) m) : ∀ j u, (rcs cell 0 m)[j]? = some u → w.cell? ((Addr.mk b off none).add j) = some u := by
  intro j u hj
  have hlt : j < m * C := by rw [← rcs_length hC m 0]; exact (List.getElem?_eq_some_iff.1 hj).1
  have hk : j / C < m := (Nat.div_lt_iff_lt_mul hp).2 hlt
  obtain ⟨b', off', e, hb, hc⟩ := h (j / C) hk
  simp only [Option.some.injEq, Addr.mk.injEq, and_true] at e
  obtain ⟨rfl, rfl⟩ := e
  have hd : j / C * C + j % C = j := Nat.div_add_mod' j C
  rw [Addr.add_lit]
  have h1 := hc (j % C) (Nat.mod_lt _ hp)
  have h2 := rcs_at hC m 0 (j / C) (j % C) hk (Nat.mod_lt _ hp)
  rw [hd, Nat.zero_add] at h2
  rw [hd] at h1
  rw [h1, ← h2]
  exact hj
/-- what owns such cells is a slice of them -/
theorem owns_rc {w : World} {B : Nat} {e : TypeId} {u : Value} {n C : Nat} {cell : Nat → List Value} (hC : ∀ i, (cell i).length = C) (h : w.ownsRow B e C u n (rcs cell 0 n)) : ∃ o c, u = .slice o n c ∧ n ≤ c ∧ Rc w C cell o n ∧ (0 < n → ∃ g, o = some ⟨g, 0, none⟩ ∧ B ≤ g ∧ ∃ cur, w.heap[g]? = some (.cells cur e (0, 0))) := by
  rcases h.2 with ⟨rfl, rfl⟩ | ⟨g, cap, cur, rfl, hb, hg, hn, hm, hs, ht⟩
  · exact ⟨none, 0, rfl, Nat.le_refl _, fun k hk => by omega, fun hn => by omega⟩
  · refine ⟨_, cap, rfl, hn, fun k hk => ⟨g, 0, rfl, (Array.getElem?_eq_some_iff.1 hg).1, fun r hr => ?_⟩, fun _ => ⟨g, rfl, hb, cur, hg⟩⟩
    rw [cell_of_row w g _ cur e (0, 0) hg, Nat.zero_add]
    have h1 := rcs_at hC n 0 k r hk hr
    have hlt : k * C + r < n * C := by
      have : (k + 1) * C ≤ n * C := Nat.mul_le_mul_right _ hk
      rw [Nat.add_mul] at this
      omega
    rw [← ht, List.getElem?_take, if_pos hlt, Array.getElem?_toList, Nat.zero_add] at h1
    exact h1
/-- an operation whose run is known -/
theorem wpList_run {P : Program} {ops : Array Oper} {rest : List Oper} {o : Oper} {a : Act} {w : World} {Q : Exit → Act → World → Prop} (hgd : o.guard = none) (v : Value) (w' : World)
    (hr : (execOp a.eval o).run P w = .ok (.value v) w') (h : wpList P ops Q rest (a.put o.dst v) w') : wpList P ops Q (o :: rest) a w :=
  wpList_plain hgd fun K hK => by
    unfold Oper.wp
    rw [hr]
    exact hK _ _ h
def varL (f : Nat → Va) (i : Nat) : List Value := [.string (f i).nm, .int .u8 (f i).k, .int .i64 (f i).n, .string (f i).t]
def flowL (f : Nat → Fl) (i : Nat) : List Value := (flowC (f i)).toList
def nodeL (f : Nat → Nod) (i : Nat) : List Value := (f i).cs.toList
def strL (f : Nat → ByteArray) (i : Nat) : List Value := [.string (f i)]
theorem Vr.rc {w : World} {o : Option Addr} {m : Nat} {f : Nat → Va} (h : Vr w o m f) : Rc w 4 (varL f) o m := fun k hk => by
  obtain ⟨b, off, e, hb, c0, c1, c2, c3⟩ := h k hk
  refine ⟨b, off, e, hb, fun r hr => ?_⟩
  have : r = 0 ∨ r = 1 ∨ r = 2 ∨ r = 3 := by omega
  rcases this with rfl | rfl | rfl | rfl
  · exact c0
  · exact c1
  · exact c2
  · exact c3
theorem Rc.vr {w : World} {o : Option Addr} {m : Nat} {f : Nat → Va} (h : Rc w 4 (varL f) o m) : Vr w o m f := fun k hk => by
  obtain ⟨b, off, e, hb, hc⟩ := h k hk
  exact ⟨b, off, e, hb, hc 0 (by omega), hc 1 (by omega), hc 2 (by omega), hc 3 (by omega)⟩
theorem FlA.rc {w : World} {o : Option Addr} {m : Nat} {f : Nat → Fl} (h : FlA w o m f) : Rc w 4 (flowL f) o m := fun k hk => by
  obtain ⟨b, off, e, hb, c0, c1, c2, c3⟩ := h k hk
  refine ⟨b, off, e, hb, fun r hr => ?_⟩
  have : r = 0 ∨ r = 1 ∨ r = 2 ∨ r = 3 := by omega
  rcases this with rfl | rfl | rfl | rfl
  · exact c0
  · exact c1
  · exact c2
  · exact c3
theorem Rc.fla {w : World} {o : Option Addr} {m : Nat} {f : Nat → Fl} (h : Rc w 4 (flowL f) o m) : FlA w o m f := fun k hk => by
  obtain ⟨b, off, e, hb, hc⟩ := h k hk
  exact ⟨b, off, e, hb, hc 0 (by omega), hc 1 (by omega), hc 2 (by omega), hc 3 (by omega)⟩
theorem Ss.rc {w : World} {o : Option Addr} {m : Nat} {f : Nat → ByteArray} (h : Ss w o m f) : Rc w 1 (strL f) o m := fun k hk => by
  obtain ⟨b, off, e, hb, c0⟩ := h k hk
  refine ⟨b, off, e, hb, fun r hr => ?_⟩
  obtain rfl : r = 0 := by omega
  rw [Nat.mul_one, Nat.add_zero]
  exact c0
theorem Rc.ss {w : World} {o : Option Addr} {m : Nat} {f : Nat → ByteArray} (h : Rc w 1 (strL f) o m) : Ss w o m f := fun k hk => by
  obtain ⟨b, off, e, hb, hc⟩ := h k hk
  have := hc 0 (by omega)
  rw [Nat.mul_one, Nat.add_zero] at this
  exact ⟨b, off, e, hb, this⟩
theorem NdA.rc {w : World} {o : Option Addr} {m : Nat} {f : Nat → Nod} (h : NdA w o m f) : Rc w 11 (nodeL f) o m := fun k hk => by
  obtain ⟨b, off, e, hb, _, c0, c1, c2, c3, c4, c5, c6, c7, c8, c9, c10⟩ := h k hk
  refine ⟨b, off, e, hb, fun r hr => ?_⟩
  have : r = 0 ∨ r = 1 ∨ r = 2 ∨ r = 3 ∨ r = 4 ∨ r = 5 ∨ r = 6 ∨ r = 7 ∨ r = 8 ∨ r = 9 ∨ r = 10 := by omega
  rcases this with rfl | rfl | rfl | rfl | rfl | rfl | rfl | rfl | rfl | rfl | rfl
  · exact c0
  · exact c1
  · exact c2
  · exact c3
  · exact c4
  · exact c5
  · exact c6
  · exact c7
  · exact c8
  · exact c9
  · exact c10
theorem Rc.nda {w : World} {o : Option Addr} {m : Nat} {f : Nat → Nod} (h : Rc w 11 (nodeL f) o m) (ha : ∀ k, k < m → (f k).at w) : NdA w o m f := fun k hk => by
  obtain ⟨b, off, e, hb, hc⟩ := h k hk
  exact ⟨b, off, e, hb, ha k hk, hc 0 (by omega), hc 1 (by omega), hc 2 (by omega), hc 3 (by omega), hc 4 (by omega), hc 5 (by omega), hc 6 (by omega), hc 7 (by omega), hc 8 (by omega), hc 9 (by omega), hc 10 (by omega)⟩
theorem varL_len (f : Nat → Va) (i : Nat) : (varL f i).length = 4 := rfl
theorem flowL_len (f : Nat → Fl) (i : Nat) : (flowL f i).length = 4 := rfl
theorem nodeL_len (f : Nat → Nod) (i : Nat) : (nodeL f i).length = 11 := rfl
theorem strL_len (f : Nat → ByteArray) (i : Nat) : (strL f i).length = 1 := rfl
theorem varL_one (f : Nat → Va) (i : Nat) : ∀ u ∈ varL f i, u.oneCell' = true := by
  intro u hu
  simp only [varL, List.mem_cons, List.not_mem_nil, or_false] at hu
  rcases hu with rfl | rfl | rfl | rfl <;> rfl
theorem flowL_one (f : Nat → Fl) (i : Nat) : ∀ u ∈ flowL f i, u.oneCell' = true := by
  intro u hu
  simp only [flowL, List.mem_cons, List.not_mem_nil, or_false] at hu
  rcases hu with rfl | rfl | rfl | rfl <;> rfl
theorem nodeL_one (f : Nat → Nod) (i : Nat) : ∀ u ∈ nodeL f i, u.oneCell' = true := by
  intro u hu
  simp only [nodeL, List.mem_cons, List.not_mem_nil, or_false] at hu
  rcases hu with rfl | rfl | rfl | rfl | rfl | rfl | rfl | rfl | rfl | rfl | rfl <;> rfl
theorem strL_one (f : Nat → ByteArray) (i : Nat) : ∀ u ∈ strL f i, u.oneCell' = true := by
  intro u hu
  simp only [strL, List.mem_cons, List.not_mem_nil, or_false] at hu
  subst hu
  rfl

set_option maxRecDepth 100000 in
/-- append to a row of one's own -/
theorem app_var (w : World) (B : Nat) (v : Value) (n : Nat) (xs : List Value) (hown : w.ownsRow B 43 4 v n xs) (a : Addr) (m c : Nat) (news : List Value) (hl : news.length = m * 4)
    (hnews : ∀ j u, news[j]? = some u → w.cell? (a.add j) = some u) (h1 : ∀ u ∈ news, u.oneCell' = true) (hb : n + m ≤ 1000000) (hbase : B ≤ w.heap.size) :
    ∃ v' w', (Builtin.append_ #[22, 22] 22 #[v, .slice (some a) m c]).run Tryd.prog w = .ok v' w' ∧ w'.ownsRow B 43 4 v' (n + m) (xs ++ news) ∧ w.grownBy w' v.ownBlock := by
  obtain ⟨v', w', h1', h2', h3', _⟩ := run_append_own_wide (P := Tryd.prog) w B 22 22 43 _ _ 4 48 Tryd.underlying22 (by rfl) (by rfl) (by rfl) (by rfl) (by rfl) (by decide) v n xs hown a m c news hl hnews h1 (by unfold maxLen; omega) (by omega) hbase
  exact ⟨v', w', h1', h2', h3'⟩
set_option maxRecDepth 100000 in
set_option maxHeartbeats 1000000 in
theorem clone_var (o : Option Addr) (m c : Nat) (f : Nat → Va) (w : World) (h : Rc w 4 (varL f) o m) (hm : m ≤ 10000) (hc : m ≤ c) :
    Calls Tryd.prog 55 #[.slice o m c] w fun e w' => ∃ u, e = .returned u ∧ w'.ownsRow w.heap.size 43 4 u m (rcs (varL f) 0 m) ∧ Below w.heap.size w w' := by
  cases o with
  | none =>
    have m0 : m = 0 := by
      rcases Nat.eq_zero_or_pos m with h0 | h0
      · exact h0
      · obtain ⟨b, off, e, _⟩ := h 0 h0
        cases e
    subst m0
    clear h
    have EQ := run_eql_slice_nil (P := Tryd.prog) w 22 43 none 0 c Tryd.underlying22
    rw [show (none : Option Addr).isNone = true from rfl] at EQ
    go_enter Tryd.func55, Tryd.ntmps55
    go_wp2
    go_ret
    exact ⟨_, rfl, ⟨rfl, .inl ⟨rfl, rfl⟩⟩, Below.refl _ _⟩
  | some a =>
    obtain ⟨W1, hW1⟩ : ∃ W, W = w.alloc (.cells #[] 43) := ⟨_, rfl⟩
    have hb1 : Below w.heap.size w W1 := by rw [hW1]; exact (Below.refl _ _).alloc (Nat.le_refl _) _
    have hown : W1.ownsRow w.heap.size 43 4 (.slice (some ⟨w.heap.size, 0, none⟩) 0 0) 0 [] := ⟨rfl, .inr ⟨w.heap.size, 0, #[], rfl, Nat.le_refl _, by rw [hW1]; exact heap_alloc_new _ _, Nat.le_refl _, Nat.zero_le _, rfl, rfl⟩⟩
    have hnw : ∀ j u, (rcs (varL f) 0 m)[j]? = some u → W1.cell? (a.add j) = some u := by
      intro j u hj
      rcases Nat.eq_zero_or_pos m with h0 | h0
      · subst h0; simp [rcs] at hj
      · obtain ⟨b, off, e, hb, hcc⟩ := h 0 h0
        simp only [Option.some.injEq] at e
        subst e
        have := Rc.news (varL_len f) (by decide) h j u hj
        rw [Addr.add_lit] at this ⊢
        rw [hb1.cell (p := ⟨b, _, none⟩) hb]
        exact this
    obtain ⟨v', w', hr, ho, hgr⟩ := app_var W1 w.heap.size _ 0 [] hown a m c (rcs (varL f) 0 m) (rcs_length (varL_len f) _ _) hnw (rcs_one (varL_one f) _ _) (by omega) hb1.size
    rw [Nat.zero_add, List.nil_append] at ho
    have HB := Lib.hid (hb1.grown hgr hb1.size (fun k hk => by simp [Value.ownBlock] at hk; omega))
    have HO := Lib.hid ho
    rw [hW1] at hr
    have EQ := run_eql_slice_nil (P := Tryd.prog) w 22 43 (some a) m c Tryd.underlying22
    rw [show (some a).isNone = false from rfl] at EQ
    clear ho hgr hnw hown hb1 hW1 h W1
    go_enter Tryd.func55, Tryd.ntmps55
    go_wp2_with (at_builtin; refine wpList_run rfl v' w' (by simp [execOp, resolve, invoke, builtin, Act.eval, hr, Result.andThen]) ?_)
    go_ret
    exact ⟨_, rfl, HO.out, HB.out⟩

set_option maxRecDepth 100000 in
/-- append to a row of one's own -/
theorem app_flow (w : World) (B : Nat) (v : Value) (n : Nat) (xs : List Value) (hown : w.ownsRow B 48 4 v n xs) (a : Addr) (m c : Nat) (news : List Value) (hl : news.length = m * 4)
    (hnews : ∀ j u, news[j]? = some u → w.cell? (a.add j) = some u) (h1 : ∀ u ∈ news, u.oneCell' = true) (hb : n + m ≤ 1000000) (hbase : B ≤ w.heap.size) :
    ∃ v' w', (Builtin.append_ #[28, 28] 28 #[v, .slice (some a) m c]).run Tryd.prog w = .ok v' w' ∧ w'.ownsRow B 48 4 v' (n + m) (xs ++ news) ∧ w.grownBy w' v.ownBlock := by
  obtain ⟨v', w', h1', h2', h3', _⟩ := run_append_own_wide (P := Tryd.prog) w B 28 28 48 _ _ 4 40 Tryd.underlying28 (by rfl) (by rfl) (by rfl) (by rfl) (by rfl) (by decide) v n xs hown a m c news hl hnews h1 (by unfold maxLen; omega) (by omega) hbase
  exact ⟨v', w', h1', h2', h3'⟩
set_option maxRecDepth 100000 in
set_option maxHeartbeats 1000000 in
theorem clone_flow (o : Option Addr) (m c : Nat) (f : Nat → Fl) (w : World) (h : Rc w 4 (flowL f) o m) (hm : m ≤ 10000) (hc : m ≤ c) :
    Calls Tryd.prog 57 #[.slice o m c] w fun e w' => ∃ u, e = .returned u ∧ w'.ownsRow w.heap.size 48 4 u m (rcs (flowL f) 0 m) ∧ Below w.heap.size w w' := by
  cases o with
  | none =>
    have m0 : m = 0 := by
      rcases Nat.eq_zero_or_pos m with h0 | h0
      · exact h0
      · obtain ⟨b, off, e, _⟩ := h 0 h0
        cases e
    subst m0
    clear h
    have EQ := run_eql_slice_nil (P := Tryd.prog) w 28 48 none 0 c Tryd.underlying28
    rw [show (none : Option Addr).isNone = true from rfl] at EQ
    go_enter Tryd.func57, Tryd.ntmps57
    go_wp2
    go_ret
    exact ⟨_, rfl, ⟨rfl, .inl ⟨rfl, rfl⟩⟩, Below.refl _ _⟩
  | some a =>
    obtain ⟨W1, hW1⟩ : ∃ W, W = w.alloc (.cells #[] 48) := ⟨_, rfl⟩
    have hb1 : Below w.heap.size w W1 := by rw [hW1]; exact (Below.refl _ _).alloc (Nat.le_refl _) _
    have hown : W1.ownsRow w.heap.size 48 4 (.slice (some ⟨w.heap.size, 0, none⟩) 0 0) 0 [] := ⟨rfl, .inr ⟨w.heap.size, 0, #[], rfl, Nat.le_refl _, by rw [hW1]; exact heap_alloc_new _ _, Nat.le_refl _, Nat.zero_le _, rfl, rfl⟩⟩
    have hnw : ∀ j u, (rcs (flowL f) 0 m)[j]? = some u → W1.cell? (a.add j) = some u := by
      intro j u hj
      rcases Nat.eq_zero_or_pos m with h0 | h0
      · subst h0; simp [rcs] at hj
      · obtain ⟨b, off, e, hb, hcc⟩ := h 0 h0
        simp only [Option.some.injEq] at e
        subst e
        have := Rc.news (flowL_len f) (by decide) h j u hj
        rw [Addr.add_lit] at this ⊢
        rw [hb1.cell (p := ⟨b, _, none⟩) hb]
        exact this
    obtain ⟨v', w', hr, ho, hgr⟩ := app_flow W1 w.heap.size _ 0 [] hown a m c (rcs (flowL f) 0 m) (rcs_length (flowL_len f) _ _) hnw (rcs_one (flowL_one f) _ _) (by omega) hb1.size
    rw [Nat.zero_add, List.nil_append] at ho
    have HB := Lib.hid (hb1.grown hgr hb1.size (fun k hk => by simp [Value.ownBlock] at hk; omega))
    have HO := Lib.hid ho
    rw [hW1] at hr
    have EQ := run_eql_slice_nil (P := Tryd.prog) w 28 48 (some a) m c Tryd.underlying28
    rw [show (some a).isNone = false from rfl] at EQ
    clear ho hgr hnw hown hb1 hW1 h W1
    go_enter Tryd.func57, Tryd.ntmps57
    go_wp2_with (at_builtin; refine wpList_run rfl v' w' (by simp [execOp, resolve, invoke, builtin, Act.eval, hr, Result.andThen]) ?_)
    go_ret
    exact ⟨_, rfl, HO.out, HB.out⟩

set_option maxRecDepth 100000 in
/-- append to a row of one's own -/
theorem app_node (w : World) (B : Nat) (v : Value) (n : Nat) (xs : List Value) (hown : w.ownsRow B 25 11 v n xs) (a : Addr) (m c : Nat) (news : List Value) (hl : news.length = m * 11)
    (hnews : ∀ j u, news[j]? = some u → w.cell? (a.add j) = some u) (h1 : ∀ u ∈ news, u.oneCell' = true) (hb : n + m ≤ 1000000) (hbase : B ≤ w.heap.size) :
    ∃ v' w', (Builtin.append_ #[27, 27] 27 #[v, .slice (some a) m c]).run Tryd.prog w = .ok v' w' ∧ w'.ownsRow B 25 11 v' (n + m) (xs ++ news) ∧ w.grownBy w' v.ownBlock := by
  obtain ⟨v', w', h1', h2', h3', _⟩ := run_append_own_wide (P := Tryd.prog) w B 27 27 25 _ _ 11 152 Tryd.underlying27 (by rfl) (by rfl) (by rfl) (by rfl) (by rfl) (by decide) v n xs hown a m c news hl hnews h1 (by unfold maxLen; omega) (by omega) hbase
  exact ⟨v', w', h1', h2', h3'⟩
set_option maxRecDepth 100000 in
set_option maxHeartbeats 1000000 in
theorem clone_node (o : Option Addr) (m c : Nat) (f : Nat → Nod) (w : World) (h : Rc w 11 (nodeL f) o m) (hm : m ≤ 10000) (hc : m ≤ c) :
    Calls Tryd.prog 56 #[.slice o m c] w fun e w' => ∃ u, e = .returned u ∧ w'.ownsRow w.heap.size 25 11 u m (rcs (nodeL f) 0 m) ∧ Below w.heap.size w w' := by
  cases o with
  | none =>
    have m0 : m = 0 := by
      rcases Nat.eq_zero_or_pos m with h0 | h0
      · exact h0
      · obtain ⟨b, off, e, _⟩ := h 0 h0
        cases e
    subst m0
    clear h
    have EQ := run_eql_slice_nil (P := Tryd.prog) w 27 25 none 0 c Tryd.underlying27
    rw [show (none : Option Addr).isNone = true from rfl] at EQ
    go_enter Tryd.func56, Tryd.ntmps56
    go_wp2
    go_ret
    exact ⟨_, rfl, ⟨rfl, .inl ⟨rfl, rfl⟩⟩, Below.refl _ _⟩
  | some a =>
    obtain ⟨W1, hW1⟩ : ∃ W, W = w.alloc (.cells #[] 25) := ⟨_, rfl⟩
    have hb1 : Below w.heap.size w W1 := by rw [hW1]; exact (Below.refl _ _).alloc (Nat.le_refl _) _
    have hown : W1.ownsRow w.heap.size 25 11 (.slice (some ⟨w.heap.size, 0, none⟩) 0 0) 0 [] := ⟨rfl, .inr ⟨w.heap.size, 0, #[], rfl, Nat.le_refl _, by rw [hW1]; exact heap_alloc_new _ _, Nat.le_refl _, Nat.zero_le _, rfl, rfl⟩⟩
    have hnw : ∀ j u, (rcs (nodeL f) 0 m)[j]? = some u → W1.cell? (a.add j) = some u := by
      intro j u hj
      rcases Nat.eq_zero_or_pos m with h0 | h0
      · subst h0; simp [rcs] at hj
      · obtain ⟨b, off, e, hb, hcc⟩ := h 0 h0
        simp only [Option.some.injEq] at e
        subst e
        have := Rc.news (nodeL_len f) (by decide) h j u hj
        rw [Addr.add_lit] at this ⊢
        rw [hb1.cell (p := ⟨b, _, none⟩) hb]
        exact this
    obtain ⟨v', w', hr, ho, hgr⟩ := app_node W1 w.heap.size _ 0 [] hown a m c (rcs (nodeL f) 0 m) (rcs_length (nodeL_len f) _ _) hnw (rcs_one (nodeL_one f) _ _) (by omega) hb1.size
    rw [Nat.zero_add, List.nil_append] at ho
    have HB := Lib.hid (hb1.grown hgr hb1.size (fun k hk => by simp [Value.ownBlock] at hk; omega))
    have HO := Lib.hid ho
    rw [hW1] at hr
    have EQ := run_eql_slice_nil (P := Tryd.prog) w 27 25 (some a) m c Tryd.underlying27
    rw [show (some a).isNone = false from rfl] at EQ
    clear ho hgr hnw hown hb1 hW1 h W1
    go_enter Tryd.func56, Tryd.ntmps56
    go_wp2_with (at_builtin; refine wpList_run rfl v' w' (by simp [execOp, resolve, invoke, builtin, Act.eval, hr, Result.andThen]) ?_)
    go_ret
    exact ⟨_, rfl, HO.out, HB.out⟩

set_option maxRecDepth 100000 in
/-- append to a row of one's own -/
theorem app_str (w : World) (B : Nat) (v : Value) (n : Nat) (xs : List Value) (hown : w.ownsRow B 9 1 v n xs) (a : Addr) (m c : Nat) (news : List Value) (hl : news.length = m * 1)
    (hnews : ∀ j u, news[j]? = some u → w.cell? (a.add j) = some u) (h1 : ∀ u ∈ news, u.oneCell' = true) (hb : n + m ≤ 1000000) (hbase : B ≤ w.heap.size) :
    ∃ v' w', (Builtin.append_ #[23, 23] 23 #[v, .slice (some a) m c]).run Tryd.prog w = .ok v' w' ∧ w'.ownsRow B 9 1 v' (n + m) (xs ++ news) ∧ w.grownBy w' v.ownBlock := by
  obtain ⟨v', w', h1', h2', h3', _⟩ := run_append_own_wide (P := Tryd.prog) w B 23 23 9 _ _ 1 16 Tryd.underlying23 (by rfl) (by rfl) (by rfl) (by rfl) (by rfl) (by decide) v n xs hown a m c news hl hnews h1 (by unfold maxLen; omega) (by omega) hbase
  exact ⟨v', w', h1', h2', h3'⟩
set_option maxRecDepth 100000 in
set_option maxHeartbeats 1000000 in
theorem clone_str (o : Option Addr) (m c : Nat) (f : Nat → ByteArray) (w : World) (h : Rc w 1 (strL f) o m) (hm : m ≤ 10000) (hc : m ≤ c) :
    Calls Tryd.prog 58 #[.slice o m c] w fun e w' => ∃ u, e = .returned u ∧ w'.ownsRow w.heap.size 9 1 u m (rcs (strL f) 0 m) ∧ Below w.heap.size w w' := by
  cases o with
  | none =>
    have m0 : m = 0 := by
      rcases Nat.eq_zero_or_pos m with h0 | h0
      · exact h0
      · obtain ⟨b, off, e, _⟩ := h 0 h0
        cases e
    subst m0
    clear h
    have EQ := run_eql_slice_nil (P := Tryd.prog) w 23 9 none 0 c Tryd.underlying23
    rw [show (none : Option Addr).isNone = true from rfl] at EQ
    go_enter Tryd.func58, Tryd.ntmps58
    go_wp2
    go_ret
    exact ⟨_, rfl, ⟨rfl, .inl ⟨rfl, rfl⟩⟩, Below.refl _ _⟩
  | some a =>
    obtain ⟨W1, hW1⟩ : ∃ W, W = w.alloc (.cells #[] 9) := ⟨_, rfl⟩
    have hb1 : Below w.heap.size w W1 := by rw [hW1]; exact (Below.refl _ _).alloc (Nat.le_refl _) _
    have hown : W1.ownsRow w.heap.size 9 1 (.slice (some ⟨w.heap.size, 0, none⟩) 0 0) 0 [] := ⟨rfl, .inr ⟨w.heap.size, 0, #[], rfl, Nat.le_refl _, by rw [hW1]; exact heap_alloc_new _ _, Nat.le_refl _, Nat.zero_le _, rfl, rfl⟩⟩
    have hnw : ∀ j u, (rcs (strL f) 0 m)[j]? = some u → W1.cell? (a.add j) = some u := by
      intro j u hj
      rcases Nat.eq_zero_or_pos m with h0 | h0
      · subst h0; simp [rcs] at hj
      · obtain ⟨b, off, e, hb, hcc⟩ := h 0 h0
        simp only [Option.some.injEq] at e
        subst e
        have := Rc.news (strL_len f) (by decide) h j u hj
        rw [Addr.add_lit] at this ⊢
        rw [hb1.cell (p := ⟨b, _, none⟩) hb]
        exact this
    obtain ⟨v', w', hr, ho, hgr⟩ := app_str W1 w.heap.size _ 0 [] hown a m c (rcs (strL f) 0 m) (rcs_length (strL_len f) _ _) hnw (rcs_one (strL_one f) _ _) (by omega) hb1.size
    rw [Nat.zero_add, List.nil_append] at ho
    have HB := Lib.hid (hb1.grown hgr hb1.size (fun k hk => by simp [Value.ownBlock] at hk; omega))
    have HO := Lib.hid ho
    rw [hW1] at hr
    have EQ := run_eql_slice_nil (P := Tryd.prog) w 23 9 (some a) m c Tryd.underlying23
    rw [show (some a).isNone = false from rfl] at EQ
    clear ho hgr hnw hown hb1 hW1 h W1
    go_enter Tryd.func58, Tryd.ntmps58
    go_wp2_with (at_builtin; refine wpList_run rfl v' w' (by simp [execOp, resolve, invoke, builtin, Act.eval, hr, Result.andThen]) ?_)
    go_ret
    exact ⟨_, rfl, HO.out, HB.out⟩
end Go.Proofs.YtdnelpmolenkoaaDoor
