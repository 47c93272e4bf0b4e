/- What model.Copy returns: the same data in memory of its own. Conditions: as many elements as large lets by. -/
import Derived.Test.YtdnelpmolenkoaaDoorMCopyA
import Derived.Deep.DeepCutAuto
namespace Go.Proofs.YtdnelpmolenkoaaDoor
open Go.RowKit Go.Ow Go.Inv2

/-- the same data, perhaps elsewhere -/
def Nod.like (a b : Nod) : Prop := a.d = b.d ∧ a.m = b.m ∧ a.f = b.f ∧ a.n = b.n ∧ a.g = b.g
structure Pr.like (a b : Pr) : Prop where
  name : a.name = b.name
  vm : a.vm = b.vm
  vf : a.vf = b.vf
  nn : a.nn = b.nn
  nf : ∀ k, (a.nf k).like (b.nf k)
  fn : a.fn = b.fn
  ff : a.ff = b.ff
/-- the block of a node's Back -/
def Nod.bk (z : Nod) : Option Nat := (Value.slice z.p z.n z.q).ownBlock
/-- a node's rows are its own, from block B on -/
def Nod.own (B : Nat) (w : World) (z : Nod) : Prop := w.ownsRow B 43 4 (.slice z.o z.m z.c) z.m (rcs (varL z.f) 0 z.m) ∧ w.ownsRow B 9 1 (.slice z.p z.n z.q) z.n (rcs (strL z.g) 0 z.n)
structure Pr.own (B : Nat) (w : World) (y : Pr) : Prop where
  v : w.ownsRow B 43 4 (.slice y.vo y.vm y.vc) y.vm (rcs (varL y.vf) 0 y.vm)
  n : w.ownsRow B 25 11 (.slice y.no y.nn y.nc) y.nn (rcs (nodeL y.nf) 0 y.nn)
  f : w.ownsRow B 48 4 (.slice y.fo y.fn y.fc) y.fn (rcs (flowL y.ff) 0 y.fn)
  z : ∀ k, k < y.nn → (y.nf k).own B w
  sep : ∀ k i, k < y.nn → i < y.nn → k ≠ i → ∀ g, (y.nf k).bk = some g → (y.nf i).bk ≠ some g
def CopyP (x : Pr) (w : World) (e : Ending) (w' : World) : Prop := ∃ y : Pr, e = .returned (.agg y.cs) ∧ y.like x ∧ y.own w.heap.size w' ∧ (∀ k, y.nn ≤ k → y.nf k = x.nf k) ∧ Below w.heap.size w w'

theorem arr_at {cur : Array Value} {N : Nat} {xs : List Value} (h : cur.toList.take N = xs) {i : Nat} (hi : i < N) : cur[i]? = xs[i]? := by
  rw [← h, List.getElem?_take, if_pos hi, Array.getElem?_toList]
theorem nodeL_d {F F' : Nat → Nod} {j : Nat} (h : (F j).d = (F' j).d) (r : Nat) (hr : r < 9) : (nodeL F j)[r]? = (nodeL F' j)[r]? := by
  unfold nodeL
  generalize F j = z at *
  generalize F' j = z' at *
  obtain ⟨a, a1, a2, a3, a4, a5, a6, a7, a8⟩ := z
  obtain ⟨b, b1, b2, b3, b4, b5, b6, b7, b8⟩ := z'
  simp only at h
  subst h
  have : r = 0 ∨ r = 1 ∨ r = 2 ∨ r = 3 ∨ r = 4 ∨ r = 5 ∨ r = 6 ∨ r = 7 ∨ r = 8 := by omega
  rcases this with rfl | rfl | rfl | rfl | rfl | rfl | rfl | rfl | rfl <;> rfl
/-- the row of nodes, of which one has other slices now -/
theorem row_turn {w w' : World} {B G nn cap j : Nat} {cur : Array Value} {F F' : Nat → Nod} {v9 v10 : Value} (hr : w.ownsRow B 25 11 (.slice (some ⟨G, 0, none⟩) nn cap) nn (rcs (nodeL F) 0 nn)) (hG : w.heap[G]? = some (.cells cur 25 (0, 0))) (hj : j < nn)
    (hF : ∀ k, k ≠ j → F' k = F k) (hd : (F' j).d = (F j).d) (h9 : v9 = .slice (F' j).o (F' j).m (F' j).c) (h10 : v10 = .slice (F' j).p (F' j).n (F' j).q)
    (hw : w'.heap[G]? = some (.cells ((cur.setIfInBounds (j * 11 + 9) v9).setIfInBounds (j * 11 + 10) v10) 25 (0, 0))) : w'.ownsRow B 25 11 (.slice (some ⟨G, 0, none⟩) nn cap) nn (rcs (nodeL F') 0 nn) := by
  rcases hr.2 with ⟨e, _⟩ | ⟨g, cap', cur', e, h1, h2, h3, h4, h5, h6⟩
  · cases e
  · simp only [Value.slice.injEq, Option.some.injEq, Addr.mk.injEq, and_true, true_and] at e
    obtain ⟨rfl, rfl⟩ := e
    rw [hG] at h2
    simp at h2
    subst h2
    refine ⟨rcs_length (nodeL_len F') _ _, .inr ⟨G, cap, _, rfl, h1, hw, h3, h4, by simpa using h5, ?_⟩⟩
    have hsz : nn * 11 ≤ cur.size := by rw [h5]; exact Nat.mul_le_mul_right _ h3
    apply List.ext_getElem?
    intro i
    by_cases hi : i < nn * 11
    · rw [List.getElem?_take, if_pos hi, Array.getElem?_toList]
      have hk : i / 11 < nn := by omega
      have hdi : i / 11 * 11 + i % 11 = i := by omega
      have e1 := rcs_at (nodeL_len F') nn 0 (i / 11) (i % 11) hk (by omega)
      have e2 := rcs_at (nodeL_len F) nn 0 (i / 11) (i % 11) hk (by omega)
      have e3 := arr_at h6 hi
      rw [hdi, Nat.zero_add] at e1 e2
      rw [e1]
      rw [e2] at e3
      rw [Array.getElem?_setIfInBounds, Array.getElem?_setIfInBounds]
      by_cases hkj : i / 11 = j
      · rw [hkj] at e3 ⊢
        by_cases r10 : i % 11 = 10
        · rw [if_pos (by omega), if_pos (by simp; omega), r10, h10]
          rfl
        · rw [if_neg (by omega)]
          by_cases r9 : i % 11 = 9
          · rw [if_pos (by omega), if_pos (by omega), r9, h9]
            rfl
          · rw [if_neg (by omega), e3]
            have hr : i % 11 < 9 := by omega
            exact nodeL_d hd.symm _ hr
      · rw [if_neg (by omega), if_neg (by omega), e3]
        unfold nodeL
        rw [hF _ hkj]
    · rw [List.getElem?_eq_none (by simp; omega), List.getElem?_eq_none (by rw [rcs_length (nodeL_len F')]; omega)]

/-- the loop of Copy -/
structure CpI (B : Nat) (x : Pr) (v4 v7 v10 : Value) (g j : Nat) (F : Nat → Nod) (W : World) : Prop where
  n : W.ownsRow B 25 11 v7 x.nn (rcs (nodeL F) 0 x.nn)
  d : ∀ k, (F k).like (x.nf k)
  rest : ∀ k, j ≤ k → F k = x.nf k
  z : ∀ k, k < j → (F k).own B W
  sep : ∀ k i, k < j → i < j → k ≠ i → ∀ g, (F k).bk = some g → (F i).bk ≠ some g
  v : W.ownsRow B 43 4 v4 x.vm (rcs (varL x.vf) 0 x.vm)
  f : W.ownsRow B 48 4 v10 x.fn (rcs (flowL x.ff) 0 x.fn)
  g : W.heap[g]? = some (.cells #[.string x.name, v4, v7, v10] 30 (0, 0))
def CpR (B : Nat) (x : Pr) (v4 v7 v10 : Value) (g : Nat) (w1 : World) (i : Value) (W : World) : Prop := ∃ (j : Nat) (F : Nat → Nod), j ≤ x.nn ∧ i = .int .i64 j ∧ CpI B x v4 v7 v10 g j F W ∧ Below w1.heap.size w1 W

set_option maxRecDepth 100000 in
set_option maxHeartbeats 16000000 in
theorem copy_any (x : Pr) (w : World) (hx : x.at w) (fx : x.fit) (l1 : x.nn ≤ 100) (l2 : x.fn ≤ 200) (l3 : x.vm ≤ 50) (l4 : ∀ k, k < x.nn → (x.nf k).m ≤ 50 ∧ (x.nf k).n ≤ 50) :
    Calls Tryd.prog 19 #[.agg x.cs] w (CopyP x w) := by
  obtain ⟨w1, hw1⟩ : ∃ W, (w.alloc (.cells x.cs 30)).alloc (.cells #[.string ⟨#[]⟩, .slice none 0 0, .slice none 0 0, .slice none 0 0] 30) = W := ⟨_, rfl⟩
  have hb1 : Below w.heap.size w w1 := by rw [← hw1]; exact ((Below.refl _ _).alloc (Nat.le_refl _) _).alloc (by simp) _
  have BX : Hid (∀ W : World, Below w1.heap.size w1 W → (W.cell? ⟨w.heap.size, 0, none⟩ = some (.string x.name) ∧ W.cell? ⟨w.heap.size, 1, none⟩ = some (.slice x.vo x.vm x.vc) ∧ W.cell? ⟨w.heap.size, 2, none⟩ = some (.slice x.no x.nn x.nc) ∧ W.cell? ⟨w.heap.size, 3, none⟩ = some (.slice x.fo x.fn x.fc)) ∧
      (W.cell? ⟨w.heap.size + 1, 0, none⟩ = some (.string ⟨#[]⟩) ∧ W.cell? ⟨w.heap.size + 1, 1, none⟩ = some (.slice none 0 0) ∧ W.cell? ⟨w.heap.size + 1, 2, none⟩ = some (.slice none 0 0) ∧ W.cell? ⟨w.heap.size + 1, 3, none⟩ = some (.slice none 0 0)) ∧ ∀ o, W.frozen? ⟨w.heap.size + 1, o, none⟩ = false) := Lib.hid (fun W hb => by
    have hl : w.heap.size + 1 < w1.heap.size := by rw [← hw1]; simp
    simp only [fun o => hb.cell (p := ⟨w.heap.size, o, none⟩) (Nat.lt_of_succ_lt hl), fun o => hb.cell (p := ⟨w.heap.size + 1, o, none⟩) hl, fun o => hb.frozen (p := ⟨w.heap.size + 1, o, none⟩) hl]
    rw [← hw1]
    simp)
  have HW := Lib.hid hw1
  have HB1 := Lib.hid hb1
  have BH : Hid (w1.heap[w.heap.size + 1]? = some (.cells #[.string ⟨#[]⟩, .slice none 0 0, .slice none 0 0, .slice none 0 0] 30 (0, 0))) := Lib.hid (by rw [← hw1]; simpa using heap_alloc_new (w.alloc (.cells x.cs 30)) (.cells #[.string ⟨#[]⟩, .slice none 0 0, .slice none 0 0, .slice none 0 0] 30))
  have HS : Hid (w.heap.size + 1 < w1.heap.size) := Lib.hid (by rw [← hw1]; simp)
  clear hw1 hb1
  have CV := Lib.hid (fun (W : World) (hb : Below w.heap.size w W) => clone_var x.vo x.vm x.vc x.vf W (hx.v.below hb).rc (by omega) fx.2.2.2.2.2.2.2.1)
  have CN := Lib.hid (fun (W : World) (hb : Below w.heap.size w W) => clone_node x.no x.nn x.nc x.nf W (hx.n.below hb).rc (by omega) fx.2.2.2.2.2.2.2.2.1)
  have CF := Lib.hid (fun (W : World) (hb : Below w.heap.size w W) => clone_flow x.fo x.fn x.fc x.ff W (hx.f.below hb).rc (by omega) fx.2.2.2.2.2.2.2.2.2)
  have CNV := Lib.hid (fun (j : Nat) (hj : j < x.nn) (W : World) (hb : Below w.heap.size w W) => by
    obtain ⟨_, _, _, _, ha, _⟩ := hx.n j hj
    exact clone_var (x.nf j).o (x.nf j).m (x.nf j).c (x.nf j).f W (ha.1.below hb).rc (by have := (l4 j hj).1; omega) (fx.2.2.1 j).2.2.2.2.2.1)
  have CNS := Lib.hid (fun (j : Nat) (hj : j < x.nn) (W : World) (hb : Below w.heap.size w W) => by
    obtain ⟨_, _, _, _, ha, _⟩ := hx.n j hj
    exact clone_str (x.nf j).p (x.nf j).n (x.nf j).q (x.nf j).g W (ha.2.below hb).rc (by have := (l4 j hj).2; omega) (fx.2.2.1 j).2.2.2.2.2.2)
  have HL := Lib.hid l1
  clear hx fx l1 l2 l3 l4
  go_enter Tryd.func19, Tryd.ntmps19
  go_upto_region 1 with fail
  rw [HW.out]
  refine wp_region_asrt (by kernel_rfl) (fun W => Below w1.heap.size w1 W) (cpAF w1.heap.size w.heap.size x) cpADep cpANeed cpAAnc cpAKill 14 [some 6, some 7, some 8, some 9, some 10, some 11, some 12, some 13, some 14, some 15, some 16, some 17, some 3, none] rfl rfl (by kernel_rfl) cpADep_anc (Below.refl _ _).drew (fun j h => cpAAnc_out h) (fun j hj => by match j, hj with | _ + 14, _ => trivial) (fun j h => cpADep_out h) ⟨?_, ?_, ?_, ?_, ?_, ?_, ?_, ?_, ?_, ?_, ?_, ?_, ?_, ?_, trivial⟩ ?_
  · refine Step.mk (oi := _) rfl [] (fun cs b h => by cases h) (by kernel_rfl) (fun vs W hI hA => ?_)
    simp only [List.map]
    simp only [putR]
    refine SOp.val (v := .pointer (some ⟨w.heap.size, 0, none⟩)) (w' := W) (by kernel_rfl) (by go_simp) ⟨hI, upd_self _ _ _, fun _ _ _ _ _ h => h⟩
  · refine Step.mk (oi := _) rfl [(6, 0)] (fun cs b h => by cases h) (by kernel_rfl) (fun vs W hI hA => ?_)
    simp only [List.map]
    have h0 : vs 0 = .pointer (some ⟨w.heap.size, 0, none⟩) := hA 0 (by decide)
    rw [h0]
    obtain ⟨⟨q0, q1, q2, q3⟩, _⟩ := BX.out _ hI
    simp only [putR, Act.put, List.setIfInBounds_toArray, List.set_cons_zero, List.set_cons_succ]
    refine SOp.val (v := .string x.name) (w' := W) (by kernel_rfl) (by go_simp) ⟨hI, upd_self _ _ _, fun _ _ _ _ _ h => h⟩
  · refine Step.mk (oi := _) rfl [] (fun cs b h => by cases h) (by kernel_rfl) (fun vs W hI hA => ?_)
    simp only [List.map]
    simp only [putR]
    refine SOp.val (v := .pointer (some ⟨w.heap.size, 1, none⟩)) (w' := W) (by kernel_rfl) (by go_simp) ⟨hI, upd_self _ _ _, fun _ _ _ _ _ h => h⟩
  · refine Step.mk (oi := _) rfl [(8, 2)] (fun cs b h => by cases h) (by kernel_rfl) (fun vs W hI hA => ?_)
    simp only [List.map]
    have h2 : vs 2 = .pointer (some ⟨w.heap.size, 1, none⟩) := hA 2 (by decide)
    rw [h2]
    obtain ⟨⟨q0, q1, q2, q3⟩, _⟩ := BX.out _ hI
    simp only [putR, Act.put, List.setIfInBounds_toArray, List.set_cons_zero, List.set_cons_succ]
    refine SOp.val (v := .slice x.vo x.vm x.vc) (w' := W) (by kernel_rfl) (by go_simp) ⟨hI, upd_self _ _ _, fun _ _ _ _ _ h => h⟩
  · refine Step.mk (oi := _) rfl [(9, 3)] (fun cs b h => by cases h) (by kernel_rfl) (fun vs W hI hA => ?_)
    simp only [List.map]
    have h3 : vs 3 = .slice x.vo x.vm x.vc := hA 3 (by decide)
    rw [h3]
    simp only [putR, Act.put, List.setIfInBounds_toArray, List.set_cons_zero, List.set_cons_succ]
    refine SOp.enter (f := 55) (args := #[.slice x.vo x.vm x.vc]) (w' := W) (by kernel_rfl) (by go_simp) ((CV.out W (below_step HB1.out hI)).mono ?_)
    rintro e W' ⟨u, rfl, ho, hb⟩
    exact ⟨u, rfl, below_step hI hb, (show asrt (cpAF w1.heap.size w.heap.size x) cpADep 4 (upd vs 4 u) W' from ownC_base (by rw [upd_self]; exact ho) hI.size), fun _ _ _ _ _ h => cpAF_mono hb h⟩
  · refine Step.mk (oi := _) rfl [] (fun cs b h => by cases h) (by kernel_rfl) (fun vs W hI hA => ?_)
    simp only [List.map]
    simp only [putR]
    refine SOp.val (v := .pointer (some ⟨w.heap.size, 2, none⟩)) (w' := W) (by kernel_rfl) (by go_simp) ⟨hI, upd_self _ _ _, fun _ _ _ _ _ h => h⟩
  · refine Step.mk (oi := _) rfl [(11, 5)] (fun cs b h => by cases h) (by kernel_rfl) (fun vs W hI hA => ?_)
    simp only [List.map]
    have h5 : vs 5 = .pointer (some ⟨w.heap.size, 2, none⟩) := hA 5 (by decide)
    rw [h5]
    obtain ⟨⟨q0, q1, q2, q3⟩, _⟩ := BX.out _ hI
    simp only [putR, Act.put, List.setIfInBounds_toArray, List.set_cons_zero, List.set_cons_succ]
    refine SOp.val (v := .slice x.no x.nn x.nc) (w' := W) (by kernel_rfl) (by go_simp) ⟨hI, upd_self _ _ _, fun _ _ _ _ _ h => h⟩
  · refine Step.mk (oi := _) rfl [(12, 6)] (fun cs b h => by cases h) (by kernel_rfl) (fun vs W hI hA => ?_)
    simp only [List.map]
    have h6 : vs 6 = .slice x.no x.nn x.nc := hA 6 (by decide)
    rw [h6]
    simp only [putR, Act.put, List.setIfInBounds_toArray, List.set_cons_zero, List.set_cons_succ]
    refine SOp.enter (f := 56) (args := #[.slice x.no x.nn x.nc]) (w' := W) (by kernel_rfl) (by go_simp) ((CN.out W (below_step HB1.out hI)).mono ?_)
    rintro e W' ⟨u, rfl, ho, hb⟩
    exact ⟨u, rfl, below_step hI hb, (show asrt (cpAF w1.heap.size w.heap.size x) cpADep 7 (upd vs 7 u) W' from ownC_base (by rw [upd_self]; exact ho) hI.size), fun _ _ _ _ _ h => cpAF_mono hb h⟩
  · refine Step.mk (oi := _) rfl [] (fun cs b h => by cases h) (by kernel_rfl) (fun vs W hI hA => ?_)
    simp only [List.map]
    simp only [putR]
    refine SOp.val (v := .pointer (some ⟨w.heap.size, 3, none⟩)) (w' := W) (by kernel_rfl) (by go_simp) ⟨hI, upd_self _ _ _, fun _ _ _ _ _ h => h⟩
  · refine Step.mk (oi := _) rfl [(14, 8)] (fun cs b h => by cases h) (by kernel_rfl) (fun vs W hI hA => ?_)
    simp only [List.map]
    have h8 : vs 8 = .pointer (some ⟨w.heap.size, 3, none⟩) := hA 8 (by decide)
    rw [h8]
    obtain ⟨⟨q0, q1, q2, q3⟩, _⟩ := BX.out _ hI
    simp only [putR, Act.put, List.setIfInBounds_toArray, List.set_cons_zero, List.set_cons_succ]
    refine SOp.val (v := .slice x.fo x.fn x.fc) (w' := W) (by kernel_rfl) (by go_simp) ⟨hI, upd_self _ _ _, fun _ _ _ _ _ h => h⟩
  · refine Step.mk (oi := _) rfl [(15, 9)] (fun cs b h => by cases h) (by kernel_rfl) (fun vs W hI hA => ?_)
    simp only [List.map]
    have h9 : vs 9 = .slice x.fo x.fn x.fc := hA 9 (by decide)
    rw [h9]
    simp only [putR, Act.put, List.setIfInBounds_toArray, List.set_cons_zero, List.set_cons_succ]
    refine SOp.enter (f := 57) (args := #[.slice x.fo x.fn x.fc]) (w' := W) (by kernel_rfl) (by go_simp) ((CF.out W (below_step HB1.out hI)).mono ?_)
    rintro e W' ⟨u, rfl, ho, hb⟩
    exact ⟨u, rfl, below_step hI hb, (show asrt (cpAF w1.heap.size w.heap.size x) cpADep 10 (upd vs 10 u) W' from ownC_base (by rw [upd_self]; exact ho) hI.size), fun _ _ _ _ _ h => cpAF_mono hb h⟩
  · refine Step.mk (oi := _) rfl [(7, 1), (10, 4), (13, 7), (16, 10)] (fun cs b h => by cases h) (by kernel_rfl) (fun vs W hI hA => ?_)
    simp only [List.map]
    have h1 : vs 1 = .string x.name := hA 1 (by decide)
    rw [h1]
    obtain ⟨o4, c4, h4, _⟩ := ownC_form (hA 4 (by decide))
    obtain ⟨o7, c7, h7, _⟩ := ownC_form (hA 7 (by decide))
    obtain ⟨o10, c10, h10, _⟩ := ownC_form (hA 10 (by decide))
    rw [h4, h7, h10]
    simp only [putR, Act.put, List.setIfInBounds_toArray, List.set_cons_zero, List.set_cons_succ]
    refine SOp.val (v := .agg #[.string x.name, .slice o4 x.vm c4, .slice o7 x.nn c7, .slice o10 x.fn c10]) (w' := W) (by kernel_rfl) (by go_simp) ⟨hI, ?_, fun _ _ _ _ _ h => h⟩
    show upd vs 11 _ 11 = .agg #[.string x.name, vs 4, vs 7, vs 10]
    rw [upd_self, h4, h7, h10]
  · refine Step.mk (oi := _) rfl [] (fun cs b h => by cases h) (by kernel_rfl) (fun vs W hI hA => ?_)
    simp only [List.map]
    simp only [putR]
    refine SOp.val (v := .pointer (some ⟨W.heap.size, 0, none⟩)) (w' := W.alloc (.cells #[.string ⟨#[]⟩, .slice none 0 0, .slice none 0 0, .slice none 0 0] 30)) (by kernel_rfl) (by go_simp) ⟨hI.alloc hI.size _, ⟨W.heap.size, upd_self _ _ _, hI.size, heap_alloc_new _ _⟩, fun _ _ _ _ _ h => cpAF_mono ((Below.refl _ _).alloc (Nat.le_refl _) _) h⟩
  · refine Step.mk (oi := _) rfl [(3, 12), (17, 11)] (fun cs b h => by cases h) (by kernel_rfl) (fun vs W hI hA => ?_)
    simp only [List.map]
    obtain ⟨o4, c4, h4, _⟩ := ownC_form (hA 4 (by decide))
    obtain ⟨o7, c7, h7, _⟩ := ownC_form (hA 7 (by decide))
    obtain ⟨o10, c10, h10, _⟩ := ownC_form (hA 10 (by decide))
    have h11 : vs 11 = .agg #[.string x.name, vs 4, vs 7, vs 10] := hA 11 (by decide)
    rw [h4, h7, h10] at h11
    obtain ⟨g, hg, hgB, hh⟩ := hA 12 (by decide)
    rw [h11, hg]
    simp only [putR, Act.put, List.setIfInBounds_toArray, List.set_cons_zero, List.set_cons_succ]
    have k0 := cell_in hh 0
    have k1 := cell_in hh 1
    have k2 := cell_in hh 2
    have k3 := cell_in hh 3
    have kf := froz_in hh
    simp at k0 k1 k2 k3
    have hbt : But g W ((((W.setCell ⟨g, 0, none⟩ (.string x.name)).setCell ⟨g, 1, none⟩ (.slice o4 x.vm c4)).setCell ⟨g, 2, none⟩ (.slice o7 x.nn c7)).setCell ⟨g, 3, none⟩ (.slice o10 x.fn c10)) := (((But.setCell _ _ _ _).trans (But.setCell _ _ _ _)).trans (But.setCell _ _ _ _)).trans (But.setCell _ _ _ _)
    refine SOp.done (w' := ((((W.setCell ⟨g, 0, none⟩ (.string x.name)).setCell ⟨g, 1, none⟩ (.slice o4 x.vm c4)).setCell ⟨g, 2, none⟩ (.slice o7 x.nn c7)).setCell ⟨g, 3, none⟩ (.slice o10 x.fn c10))) (by kernel_rfl) (by go_simp) ⟨?_, ?_, ?_⟩
    · exact (((hI.setCell hgB _).setCell hgB _).setCell hgB _).setCell hgB _
    · refine ⟨g, ?_, hgB, ?_⟩
      · exact hg
      · show _ = some (Obj.cells #[.string x.name, vs 4, vs 7, vs 10] _ _)
        rw [h4, h7, h10]
        exact But.heap (But.heap (But.heap (But.heap hh)))
    · intro j vs' a1 a2 a3 a4
      by_cases e4 : j = 4
      · subst e4; exact ownC_but a4 hh (by decide) hbt
      by_cases e7 : j = 7
      · subst e7; exact ownC_but a4 hh (by decide) hbt
      by_cases e10 : j = 10
      · subst e10; exact ownC_but a4 hh (by decide) hbt
      exact cpAKeep [4, 7, 10] (i := 13) (by decide) j vs' a1 a2 a3 (by simp [e4, e7, e10]) a4
  · intro vs W hI hφ
    obtain ⟨g, hg, hgB, hh⟩ := hφ 13 (fun k _ => by simp [cpAKill])
    have ho4 : W.ownsRow w1.heap.size 43 4 (vs 4) x.vm (rcs (varL x.vf) 0 x.vm) := hφ 4 (fun k _ => by simp [cpAKill])
    have ho7 : W.ownsRow w1.heap.size 25 11 (vs 7) x.nn (rcs (nodeL x.nf) 0 x.nn) := hφ 7 (fun k _ => by simp [cpAKill])
    have ho10 : W.ownsRow w1.heap.size 48 4 (vs 10) x.fn (rcs (flowL x.ff) 0 x.fn) := hφ 10 (fun k _ => by simp [cpAKill])
    replace hg : vs 12 = .pointer (some ⟨g, 0, none⟩) := hg
    replace hh : W.heap[g]? = some (.cells #[.string x.name, vs 4, vs 7, vs 10] 30 (0, 0)) := hh
    obtain ⟨o4, c4, h4, _⟩ := ownC_form ho4
    obtain ⟨o7, c7, h7, _⟩ := ownC_form ho7
    obtain ⟨o10, c10, h10, _⟩ := ownC_form ho10
    rw [h4] at ho4 hh
    rw [h7] at ho7 hh
    rw [h10] at ho10 hh
    simp only [putAll, Act.put, List.setIfInBounds_toArray, List.set_cons_zero, List.set_cons_succ]
    rw [hg]
    have k2 := cell_in hh 2
    simp at k2
    have HI0 : Hid (CpI w1.heap.size x (.slice o4 x.vm c4) (.slice o7 x.nn c7) (.slice o10 x.fn c10) g 0 x.nf W) := Lib.hid ⟨ho7, fun _ => ⟨rfl, rfl, rfl, rfl, rfl⟩, fun _ _ => rfl, fun k hk => by omega, fun k i hk => by omega, ho4, ho10, hh⟩
    have HBW := Lib.hid hI
    clear hφ hg hh ho4 ho7 ho10 h4 h7 h10 hI
    go_wp2_with fail
    go_loopw [21] (fun i wr => CpR w1.heap.size x (.slice o4 x.vm c4) (.slice o7 x.nn c7) (.slice o10 x.fn c10) g w1 i wr) (fun i _ => x.nn - (intOf i).toNat)
    case atStart => exact ⟨0, x.nf, Nat.zero_le _, rfl, HI0.out, HBW.out⟩
    case round =>
      clear HI0 HBW k2
      obtain ⟨j, F, hj, rfl, hI, hB⟩ := hrel
      have HI := Lib.hid hI
      have HB := Lib.hid hB
      clear hI hB
      have k2 := cell_in HI.out.g 2
      simp at k2
      by_cases hlt : j < x.nn
      · have hn := HI.out.n
        rcases hn.2 with ⟨_, h0⟩ | ⟨G, cap, cur, e, hG, hcur, hcap, hmax, hcs, hct⟩
        · omega
        · simp only [Value.slice.injEq, true_and] at e
          obtain ⟨rfl, rfl⟩ := e
          clear hn
          have hr := HI.out.rest j (Nat.le_refl _)
          have hc9 : cur[j * 11 + 9]? = some (.slice (x.nf j).o (x.nf j).m (x.nf j).c) := by
            rw [arr_at hct (by omega), rcs_at (nodeL_len F) x.nn 0 j 9 hlt (by omega), Nat.zero_add]
            unfold nodeL
            rw [hr]
            rfl
          have hc10 : cur[j * 11 + 10]? = some (.slice (x.nf j).p (x.nf j).n (x.nf j).q) := by
            rw [arr_at hct (by omega), rcs_at (nodeL_len F) x.nn 0 j 10 hlt (by omega), Nat.zero_add]
            unfold nodeL
            rw [hr]
            rfl
          have HC9 := Lib.hid hc9
          have HC10 := Lib.hid hc10
          have HCU := Lib.hid hcur
          have HCS := Lib.hid hcs
          have i1 : (j : Int) < (x.nn : Int) := by omega
          have i3 : (j : Int) ≤ 100 := by have := HL.out; omega
          have i2 : (0 : Int) ≤ (j : Int) := by omega
          clear hc9 hc10 hr hct hcur hcs
          go_upto_region 6 with fail
          have HBR := Lib.hid (below_step HB1.out HB.out)
          have HGz : Hid (G < wr.heap.size) := Lib.hid (Array.getElem?_eq_some_iff.1 HCU.out).1
          have HGw : Hid (w1.heap.size ≤ G) := Lib.hid hG
          have HG0 : Hid (w.heap.size ≤ G) := Lib.hid (Nat.le_trans HB1.out.size hG)
          clear hG
          refine wp_region_asrt (by kernel_rfl) (fun W => But G wr W) (cpBF wr.heap.size G j cur (x.nf j)) cpBDep cpBNeed cpBAnc cpBKill 18 [some 28, some 29, some 30, some 31, some 32, some 33, some 34, some 35, some 36, some 37, some 38, some 39, some 40, some 41, none, some 42, some 43, none] rfl rfl (by kernel_rfl) cpBDep_anc ⟨rfl, rfl, rfl, Nat.le_refl _, fun _ _ _ => rfl⟩ (fun j h => cpBAnc_out h) (fun k hk => by rcases Nat.eq_or_lt_of_le hk with rfl | hk; exact HCU.out; obtain ⟨k, rfl⟩ : ∃ i, k = i + 19 := ⟨k - 19, by omega⟩; trivial) (fun j h => cpBDep_out h) ⟨?_, ?_, ?_, ?_, ?_, ?_, ?_, ?_, ?_, ?_, ?_, ?_, ?_, ?_, ?_, ?_, ?_, ?_, trivial⟩ ?_
          · refine Step.mk (oi := _) rfl [] (fun cs b h => by cases h) (by kernel_rfl) (fun vs W hI hA => ?_)
            simp only [List.map]
            simp only [putR]
            refine SOp.val (v := .pointer (some ⟨G, j * 11, none⟩)) (w' := W) (by kernel_rfl) (by go_simp) ⟨hI, upd_self _ _ _, fun _ _ _ _ _ h => h⟩
          · refine Step.mk (oi := _) rfl [] (fun cs b h => by cases h) (by kernel_rfl) (fun vs W hI hA => ?_)
            simp only [List.map]
            simp only [putR]
            refine SOp.val (v := .pointer (some ⟨G, j * 11, none⟩)) (w' := W) (by kernel_rfl) (by go_simp) ⟨hI, upd_self _ _ _, fun _ _ _ _ _ h => h⟩
          · refine Step.mk (oi := _) rfl [] (fun cs b h => by cases h) (by kernel_rfl) (fun vs W hI hA => ?_)
            simp only [List.map]
            simp only [putR]
            refine SOp.val (v := .pointer (some ⟨G, j * 11, none⟩)) (w' := W) (by kernel_rfl) (by go_simp) ⟨hI, upd_self _ _ _, fun _ _ _ _ _ h => h⟩
          · refine Step.mk (oi := _) rfl [(30, 2)] (fun cs b h => by cases h) (by kernel_rfl) (fun vs W hI hA => ?_)
            simp only [List.map]
            have h2 : vs 2 = .pointer (some ⟨G, j * 11, none⟩) := hA 2 (by decide)
            rw [h2]
            simp only [putR, Act.put, List.setIfInBounds_toArray, List.set_cons_zero, List.set_cons_succ]
            refine SOp.val (v := .pointer (some ⟨G, j * 11, none⟩)) (w' := W) (by kernel_rfl) (by go_simp) ⟨hI, upd_self _ _ _, fun _ _ _ _ _ h => h⟩
          · refine Step.mk (oi := _) rfl [(31, 3)] (fun cs b h => by cases h) (by kernel_rfl) (fun vs W hI hA => ?_)
            simp only [List.map]
            have h3 : vs 3 = .pointer (some ⟨G, j * 11, none⟩) := hA 3 (by decide)
            rw [h3]
            simp only [putR, Act.put, List.setIfInBounds_toArray, List.set_cons_zero, List.set_cons_succ]
            refine SOp.val (v := .pointer (some ⟨G, j * 11 + 9, none⟩)) (w' := W) (by kernel_rfl) (by go_simp) ⟨hI, upd_self _ _ _, fun _ _ _ _ _ h => h⟩
          · refine Step.mk (oi := _) rfl [(32, 4)] (fun cs b h => by cases h) (by kernel_rfl) (fun vs W hI hA => ?_)
            simp only [List.map]
            have h4 : vs 4 = .pointer (some ⟨G, j * 11 + 9, none⟩) := hA 4 (by decide)
            rw [h4]
            have h18 : W.heap[G]? = some (.cells cur 25 (0, 0)) := hA 18 (by decide)
            have k9 := cell_in h18 (j * 11 + 9)
            rw [HC9.out] at k9
            clear h18
            simp only [putR, Act.put, List.setIfInBounds_toArray, List.set_cons_zero, List.set_cons_succ]
            refine SOp.val (v := .slice (x.nf j).o (x.nf j).m (x.nf j).c) (w' := W) (by kernel_rfl) (by go_simp) ⟨hI, upd_self _ _ _, fun _ _ _ _ _ h => h⟩
          · refine Step.mk (oi := _) rfl [(33, 5)] (fun cs b h => by cases h) (by kernel_rfl) (fun vs W hI hA => ?_)
            simp only [List.map]
            have h5 : vs 5 = .slice (x.nf j).o (x.nf j).m (x.nf j).c := hA 5 (by decide)
            rw [h5]
            simp only [putR, Act.put, List.setIfInBounds_toArray, List.set_cons_zero, List.set_cons_succ]
            refine SOp.enter (f := 55) (args := #[.slice (x.nf j).o (x.nf j).m (x.nf j).c]) (w' := W) (by kernel_rfl) (by go_simp) ((CNV.out j hlt W (HBR.out.trans (hI.below HG0.out (Nat.le_of_lt HGz.out)))).mono ?_)
            rintro e W' ⟨u, rfl, ho, hb⟩
            exact ⟨u, rfl, hI.trans (But.of_below hb), (show asrt (cpBF wr.heap.size G j cur (x.nf j)) cpBDep 6 (upd vs 6 u) W' from ownC_base (by rw [upd_self]; exact ho) hI.size), fun _ _ _ _ _ h => cpBF_mono hb h⟩
          · refine Step.mk (oi := _) rfl [] (fun cs b h => by cases h) (by kernel_rfl) (fun vs W hI hA => ?_)
            simp only [List.map]
            simp only [putR]
            refine SOp.val (v := .pointer (some ⟨G, j * 11, none⟩)) (w' := W) (by kernel_rfl) (by go_simp) ⟨hI, upd_self _ _ _, fun _ _ _ _ _ h => h⟩
          · refine Step.mk (oi := _) rfl [(35, 7)] (fun cs b h => by cases h) (by kernel_rfl) (fun vs W hI hA => ?_)
            simp only [List.map]
            have h7 : vs 7 = .pointer (some ⟨G, j * 11, none⟩) := hA 7 (by decide)
            rw [h7]
            simp only [putR, Act.put, List.setIfInBounds_toArray, List.set_cons_zero, List.set_cons_succ]
            refine SOp.val (v := .pointer (some ⟨G, j * 11, none⟩)) (w' := W) (by kernel_rfl) (by go_simp) ⟨hI, upd_self _ _ _, fun _ _ _ _ _ h => h⟩
          · refine Step.mk (oi := _) rfl [(36, 8)] (fun cs b h => by cases h) (by kernel_rfl) (fun vs W hI hA => ?_)
            simp only [List.map]
            have h8 : vs 8 = .pointer (some ⟨G, j * 11, none⟩) := hA 8 (by decide)
            rw [h8]
            simp only [putR, Act.put, List.setIfInBounds_toArray, List.set_cons_zero, List.set_cons_succ]
            refine SOp.val (v := .pointer (some ⟨G, j * 11 + 10, none⟩)) (w' := W) (by kernel_rfl) (by go_simp) ⟨hI, upd_self _ _ _, fun _ _ _ _ _ h => h⟩
          · refine Step.mk (oi := _) rfl [(37, 9)] (fun cs b h => by cases h) (by kernel_rfl) (fun vs W hI hA => ?_)
            simp only [List.map]
            have h9 : vs 9 = .pointer (some ⟨G, j * 11 + 10, none⟩) := hA 9 (by decide)
            rw [h9]
            have h18 : W.heap[G]? = some (.cells cur 25 (0, 0)) := hA 18 (by decide)
            have k9 := cell_in h18 (j * 11 + 10)
            rw [HC10.out] at k9
            clear h18
            simp only [putR, Act.put, List.setIfInBounds_toArray, List.set_cons_zero, List.set_cons_succ]
            refine SOp.val (v := .slice (x.nf j).p (x.nf j).n (x.nf j).q) (w' := W) (by kernel_rfl) (by go_simp) ⟨hI, upd_self _ _ _, fun _ _ _ _ _ h => h⟩
          · refine Step.mk (oi := _) rfl [(38, 10)] (fun cs b h => by cases h) (by kernel_rfl) (fun vs W hI hA => ?_)
            simp only [List.map]
            have h10 : vs 10 = .slice (x.nf j).p (x.nf j).n (x.nf j).q := hA 10 (by decide)
            rw [h10]
            simp only [putR, Act.put, List.setIfInBounds_toArray, List.set_cons_zero, List.set_cons_succ]
            refine SOp.enter (f := 58) (args := #[.slice (x.nf j).p (x.nf j).n (x.nf j).q]) (w' := W) (by kernel_rfl) (by go_simp) ((CNS.out j hlt W (HBR.out.trans (hI.below HG0.out (Nat.le_of_lt HGz.out)))).mono ?_)
            rintro e W' ⟨u, rfl, ho, hb⟩
            exact ⟨u, rfl, hI.trans (But.of_below hb), (show asrt (cpBF wr.heap.size G j cur (x.nf j)) cpBDep 11 (upd vs 11 u) W' from ownC_base (by rw [upd_self]; exact ho) hI.size), fun _ _ _ _ _ h => cpBF_mono hb h⟩
          · refine Step.mk (oi := _) rfl [(28, 0)] (fun cs b h => by cases h) (by kernel_rfl) (fun vs W hI hA => ?_)
            simp only [List.map]
            have h0 : vs 0 = .pointer (some ⟨G, j * 11, none⟩) := hA 0 (by decide)
            rw [h0]
            simp only [putR, Act.put, List.setIfInBounds_toArray, List.set_cons_zero, List.set_cons_succ]
            refine SOp.val (v := .pointer (some ⟨G, j * 11, none⟩)) (w' := W) (by kernel_rfl) (by go_simp) ⟨hI, upd_self _ _ _, fun _ _ _ _ _ h => h⟩
          · refine Step.mk (oi := _) rfl [(40, 12)] (fun cs b h => by cases h) (by kernel_rfl) (fun vs W hI hA => ?_)
            simp only [List.map]
            have h12 : vs 12 = .pointer (some ⟨G, j * 11, none⟩) := hA 12 (by decide)
            rw [h12]
            simp only [putR, Act.put, List.setIfInBounds_toArray, List.set_cons_zero, List.set_cons_succ]
            refine SOp.val (v := .pointer (some ⟨G, j * 11 + 9, none⟩)) (w' := W) (by kernel_rfl) (by go_simp) ⟨hI, upd_self _ _ _, fun _ _ _ _ _ h => h⟩
          · refine Step.mk (oi := _) rfl [(41, 13), (34, 6)] (fun cs b h => by cases h) (by kernel_rfl) (fun vs W hI hA => ?_)
            simp only [List.map]
            have h13 : vs 13 = .pointer (some ⟨G, j * 11 + 9, none⟩) := hA 13 (by decide)
            rw [h13]
            obtain ⟨o6, c6, h6, _⟩ := ownC_form (hA 6 (by decide))
            have h18 : W.heap[G]? = some (.cells cur 25 (0, 0)) := hA 18 (by decide)
            have k9 := cell_in h18 (j * 11 + 9)
            rw [HC9.out] at k9
            have kf := froz_in h18 (j * 11 + 9)
            rw [h6]
            simp only [putR, Act.put, List.setIfInBounds_toArray, List.set_cons_zero, List.set_cons_succ]
            refine SOp.done (w' := W.setCell ⟨G, j * 11 + 9, none⟩ (.slice o6 (x.nf j).m c6)) (by kernel_rfl) (by go_simp) ⟨hI.trans (But.setCell _ _ _ _), ?_, ?_⟩
            · show _ = some (Obj.cells (cur.setIfInBounds (j * 11 + 9) (vs 6)) _ _)
              rw [h6]
              exact But.heap h18
            · intro i vs' a1 a2 a3 a4
              by_cases e6 : i = 6
              · subst e6; exact ownC_but a4 h18 (by decide) (But.setCell _ _ _ _)
              by_cases e11 : i = 11
              · subst e11; exact ownC_but a4 h18 (by decide) (But.setCell _ _ _ _)
              exact cpBKeep [6, 11] (i := 14) (by decide) i vs' a1 a2 a3 (by simp [e6, e11]) a4
          · refine Step.mk (oi := _) rfl [(29, 1)] (fun cs b h => by cases h) (by kernel_rfl) (fun vs W hI hA => ?_)
            simp only [List.map]
            have h1 : vs 1 = .pointer (some ⟨G, j * 11, none⟩) := hA 1 (by decide)
            rw [h1]
            simp only [putR, Act.put, List.setIfInBounds_toArray, List.set_cons_zero, List.set_cons_succ]
            refine SOp.val (v := .pointer (some ⟨G, j * 11, none⟩)) (w' := W) (by kernel_rfl) (by go_simp) ⟨hI, upd_self _ _ _, fun _ _ _ _ _ h => h⟩
          · refine Step.mk (oi := _) rfl [(42, 15)] (fun cs b h => by cases h) (by kernel_rfl) (fun vs W hI hA => ?_)
            simp only [List.map]
            have h15 : vs 15 = .pointer (some ⟨G, j * 11, none⟩) := hA 15 (by decide)
            rw [h15]
            simp only [putR, Act.put, List.setIfInBounds_toArray, List.set_cons_zero, List.set_cons_succ]
            refine SOp.val (v := .pointer (some ⟨G, j * 11 + 10, none⟩)) (w' := W) (by kernel_rfl) (by go_simp) ⟨hI, upd_self _ _ _, fun _ _ _ _ _ h => h⟩
          · refine Step.mk (oi := _) rfl [(43, 16), (39, 11)] (fun cs b h => by cases h) (by kernel_rfl) (fun vs W hI hA => ?_)
            simp only [List.map]
            have h16 : vs 16 = .pointer (some ⟨G, j * 11 + 10, none⟩) := hA 16 (by decide)
            rw [h16]
            obtain ⟨o11, c11, h11, _⟩ := ownC_form (hA 11 (by decide))
            have h14 : W.heap[G]? = some (.cells (cur.setIfInBounds (j * 11 + 9) (vs 6)) 25 (0, 0)) := hA 14 (by decide)
            have k10 := cell_in h14 (j * 11 + 10)
            rw [Array.getElem?_setIfInBounds_ne (by omega), HC10.out] at k10
            have kf := froz_in h14 (j * 11 + 10)
            rw [h11]
            simp only [putR, Act.put, List.setIfInBounds_toArray, List.set_cons_zero, List.set_cons_succ]
            refine SOp.done (w' := W.setCell ⟨G, j * 11 + 10, none⟩ (.slice o11 (x.nf j).n c11)) (by kernel_rfl) (by go_simp) ⟨hI.trans (But.setCell _ _ _ _), ?_, ?_⟩
            · show _ = some (Obj.cells ((cur.setIfInBounds (j * 11 + 9) (vs 6)).setIfInBounds (j * 11 + 10) (vs 11)) _ _)
              rw [h11]
              exact But.heap h14
            · intro i vs' a1 a2 a3 a4
              by_cases e6 : i = 6
              · subst e6; exact ownC_but a4 h14 (by decide) (But.setCell _ _ _ _)
              by_cases e11 : i = 11
              · subst e11; exact ownC_but a4 h14 (by decide) (But.setCell _ _ _ _)
              exact cpBKeep [6, 11] (i := 17) (by decide) i vs' a1 a2 a3 (by simp [e6, e11]) a4
          · intro us W2 hI2 hφ
            have h17 : W2.heap[G]? = some (.cells ((cur.setIfInBounds (j * 11 + 9) (us 6)).setIfInBounds (j * 11 + 10) (us 11)) 25 (0, 0)) := hφ 17 (fun k _ => by simp [cpBKill])
            have p6 : W2.ownsRow wr.heap.size 43 4 (us 6) (x.nf j).m (rcs (varL (x.nf j).f) 0 (x.nf j).m) := hφ 6 (fun k _ => by simp [cpBKill])
            have p11 : W2.ownsRow wr.heap.size 9 1 (us 11) (x.nf j).n (rcs (strL (x.nf j).g) 0 (x.nf j).n) := hφ 11 (fun k _ => by simp [cpBKill])
            obtain ⟨o6, c6, h6, _⟩ := ownC_form p6
            obtain ⟨o11, c11, h11, _⟩ := ownC_form p11
            rw [h6] at p6
            rw [h11] at p11
            have hrest := HI.out.rest j (Nat.le_refl _)
            have hne : g ≠ G := fun e => by have := HI.out.g; rw [e, HCU.out] at this; simp at this
            have HN : Hid (CpR w1.heap.size x (.slice o4 x.vm c4) (.slice (some ⟨G, 0, none⟩) x.nn c7) (.slice o10 x.fn c10) g w1 (.int .i64 (j + 1 : Nat)) W2) := Lib.hid ⟨j + 1, fun k => if k = j then { x.nf j with o := o6, c := c6, p := o11, q := c11 } else F k, by omega, rfl,
              ⟨row_turn HI.out.n HCU.out hlt (fun k hk => if_neg hk) (by rw [if_pos rfl, hrest]) (by rw [if_pos rfl]; exact h6) (by rw [if_pos rfl]; exact h11) h17,
               fun k => by
                 by_cases hk : k = j
                 · rw [if_pos hk, hk]; exact ⟨rfl, rfl, rfl, rfl, rfl⟩
                 · rw [if_neg hk]; exact HI.out.d k,
               fun k hk => by rw [if_neg (by omega)]; exact HI.out.rest k (by omega),
               fun k hk => by
                 by_cases hkj : k = j
                 · rw [if_pos hkj]; exact ⟨ownC_base p6 HB.out.size, ownC_base p11 HB.out.size⟩
                 · rw [if_neg hkj]; exact ⟨ownC_but (HI.out.z k (by omega)).1 HCU.out (by decide) hI2, ownC_but (HI.out.z k (by omega)).2 HCU.out (by decide) hI2⟩,
               fun k i hk hi hki => by
                 by_cases hkj : k = j
                 · rw [if_pos hkj, if_neg (show ¬ i = j by omega)]; exact fun g hg he => absurd (ownC_blk p11 g hg).1 (Nat.not_le.2 (ownC_blk (HI.out.z i (by omega)).2 g he).2)
                 · by_cases hij : i = j
                   · rw [if_neg hkj, if_pos hij]; exact fun g hg he => absurd (ownC_blk p11 g he).1 (Nat.not_le.2 (ownC_blk (HI.out.z k (by omega)).2 g hg).2)
                   · rw [if_neg hkj, if_neg hij]; exact HI.out.sep k i (by omega) (by omega) hki,
               ownC_but HI.out.v HCU.out (by decide) hI2, ownC_but HI.out.f HCU.out (by decide) hI2,
               by rw [hI2.block g (Array.getElem?_eq_some_iff.1 HI.out.g).1 hne]; exact HI.out.g⟩, HB.out.trans (hI2.below HGw.out (Nat.le_of_lt HGz.out))⟩
            clear h17 p6 p11 h6 h11 hrest hne hφ hI2
            simp only [putAll, Act.put, List.setIfInBounds_toArray, List.set_cons_zero, List.set_cons_succ]
            go_wp2_with fail
            go_roundw
            case rel => rw [show ((j + 1 : Nat) : Int) = (j : Int) + 1 from rfl] at HN; exact HN.out
            case measure => simp [intOf]; omega
      · obtain rfl : j = x.nn := by omega
        have k0 := cell_in HI.out.g 0
        have k1 := cell_in HI.out.g 1
        have k3 := cell_in HI.out.g 3
        simp at k0 k1 k3
        obtain ⟨_, ⟨r0, r1, r2, r3⟩, rf⟩ := BX.out _ HB.out
        have hbt : Hid (But (w.heap.size + 1) wr ((((wr.setCell ⟨w.heap.size + 1, 0, none⟩ (.string x.name)).setCell ⟨w.heap.size + 1, 1, none⟩ (.slice o4 x.vm c4)).setCell ⟨w.heap.size + 1, 2, none⟩ (.slice o7 x.nn c7)).setCell ⟨w.heap.size + 1, 3, none⟩ (.slice o10 x.fn c10))) := Lib.hid ((((But.setCell _ _ _ _).trans (But.setCell _ _ _ _)).trans (But.setCell _ _ _ _)).trans (But.setCell _ _ _ _))
        have hbh : Hid (wr.heap[w.heap.size + 1]? = some (.cells #[.string ⟨#[]⟩, .slice none 0 0, .slice none 0 0, .slice none 0 0] 30 (0, 0))) := Lib.hid (by rw [HB.out.block _ HS.out]; exact BH.out)
        go_wp2_with fail
        refine bodyPost_ret (v := .agg #[.string x.name, .slice o4 x.vm c4, .slice o7 x.nn c7, .slice o10 x.fn c10]) (by simp [results, Tryd.results19, go_sem, r0, r1, r2, r3]) rfl ?_
        refine ⟨⟨x.name, o4, x.vm, c4, x.vf, o7, x.nn, c7, F, o10, x.fn, c10, x.ff⟩, rfl, ⟨rfl, rfl, rfl, rfl, HI.out.d, rfl, rfl⟩, ⟨ownC_base (ownC_but HI.out.v hbh.out (by decide) hbt.out) HB1.out.size, ownC_base (ownC_but HI.out.n hbh.out (by decide) hbt.out) HB1.out.size, ownC_base (ownC_but HI.out.f hbh.out (by decide) hbt.out) HB1.out.size, fun k hk => ⟨ownC_base (ownC_but (HI.out.z k hk).1 hbh.out (by decide) hbt.out) HB1.out.size, ownC_base (ownC_but (HI.out.z k hk).2 hbh.out (by decide) hbt.out) HB1.out.size⟩, HI.out.sep⟩, HI.out.rest, ?_⟩
        exact (below_step HB1.out HB.out).trans (hbt.out.below (Nat.le_succ _) (by have := HB.out.size; have := HS.out; omega))
end Go.Proofs.YtdnelpmolenkoaaDoor
