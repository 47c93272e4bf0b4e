/- What callboardref14.Copy returns: the same data in memory of its own. Conditions: as many elements as large lets by. -/
import Derived.Test.YtdnelpmolenkoaaDoorTRefB
import Derived.Deep.DeepCutAuto
namespace Go.Proofs.YtdnelpmolenkoaaDoor
open Go.RowKit Go.Ow Go.Inv2

def RCopyP (x : Pr) (w : World) (e : Ending) (w' : World) : Prop := ∃ y : Pr, e = .returned (.agg y.cs) ∧ y.like x ∧ y.at w' ∧ y.fit ∧ Below w.heap.size w w'
/-- the loop of Copy -/
structure RcI (B : Nat) (x : Pr) (v4 vN v10 : Value) (g j : Nat) (F : Nat → Nod) (W : World) : Prop where
  n : W.ownsRow B 25 11 vN j (rcs (nodeL F) 0 j)
  d : ∀ k, (F k).like (x.nf k)
  rest : ∀ k, j ≤ k → F k = x.nf k
  z : ∀ k, k < j → (F k).own B W
  v : W.ownsRow B 43 4 v4 x.vm (rcs (varL x.vf) 0 x.vm)
  f : W.ownsRow B 48 4 v10 x.fn (rcs (flowL x.ff) 0 x.fn)
  hg : B ≤ g
  g : W.heap[g]? = some (.cells #[.string x.name, v4, vN, v10] 30 (0, 0))
def RcR (B : Nat) (x : Pr) (v4 v10 : Value) (g : Nat) (w1 : World) (i : Value) (W : World) : Prop := ∃ (j : Nat) (oN : Option Addr) (cN : Nat) (F : Nat → Nod), j ≤ x.nn ∧ i = .int .i64 j ∧ j ≤ cN ∧ RcI B x v4 (.slice oN j cN) v10 g j F W ∧ Below w1.heap.size w1 W

/-- one more node -/
theorem RcI.more {B : Nat} {x : Pr} {v4 v10 : Value} {g j : Nat} {F : Nat → Nod} {vN v8 : Value} {wr W7 W8 w8 W9 : World} {o6 o7 : Option Addr} {c6 c7 : Nat}
    (h : RcI B x v4 vN v10 g j F wr) (hB : B ≤ wr.heap.size) (h7 : Below wr.heap.size wr W7) (h8 : Below W7.heap.size W7 W8)
    (p6 : W7.ownsRow wr.heap.size 43 4 (.slice o6 (x.nf j).m c6) (x.nf j).m (rcs (varL (x.nf j).f) 0 (x.nf j).m))
    (p7 : W7.ownsRow wr.heap.size 9 1 (.slice o7 (x.nf j).n c7) (x.nf j).n (rcs (strL (x.nf j).g) 0 (x.nf j).n))
    (ho : w8.ownsRow B 25 11 v8 (j + 1) (rcs (nodeL F) 0 j ++ (nodeC (x.nf j).d (.slice o6 (x.nf j).m c6) (.slice o7 (x.nf j).n c7)).toList))
    (hr : W8.grownBy w8 vN.ownBlock) (hW : But g w8 W9) (h9 : W9.heap[g]? = some (.cells #[.string x.name, v4, v8, v10] 30 (0, 0))) :
    RcI B x v4 v8 v10 g (j + 1) (fun k => if k = j then { x.nf j with o := o6, c := c6, p := o7, q := c7 } else F k) W9 := by
  have hall := below_step h7 h8
  have n8 := ownC_mono h.n hall
  have g7 : w8.heap[g]? = some (.cells #[.string x.name, v4, vN, v10] 30 (0, 0)) := grown_block n8 hr (by rw [hall.block g (Array.getElem?_eq_some_iff.1 h.g).1]; exact h.g) (by decide)
  have cv : ∀ {u : Value} {n : Nat} {xs : List Value} {C : Nat} {B' : Nat} {e : TypeId}, W8.ownsRow B' e C u n xs → 25 ≠ e → e ≠ 30 → W9.ownsRow B' e C u n xs := fun h1 h2 h3 => ownC_but (own_other h1 n8 h2 hr) g7 h3 hW
  refine ⟨?_, fun k => ?_, fun k hk => ?_, fun k hk => ?_, cv (ownC_mono h.v hall) (by decide) (by decide), cv (ownC_mono h.f hall) (by decide) (by decide), h.hg, h9⟩
  · rw [rcs_snoc, Nat.zero_add]
    have e1 : rcs (nodeL (fun k => if k = j then { x.nf j with o := o6, c := c6, p := o7, q := c7 } else F k)) 0 j = rcs (nodeL F) 0 j := rcs_ext j 0 fun k _ hk => by unfold nodeL; simp only [if_neg (show ¬ k = j by omega)]
    have e2 : nodeL (fun k => if k = j then { x.nf j with o := o6, c := c6, p := o7, q := c7 } else F k) j = (nodeC (x.nf j).d (.slice o6 (x.nf j).m c6) (.slice o7 (x.nf j).n c7)).toList := by unfold nodeL; simp only [if_true]
    rw [e1, e2]
    exact ownC_but ho g7 (by decide) hW
  · by_cases hk : k = j
    · rw [if_pos hk, hk]; exact ⟨rfl, rfl, rfl, rfl, rfl⟩
    · rw [if_neg hk]; exact h.d k
  · rw [if_neg (by omega)]; exact h.rest k (by omega)
  · by_cases hkj : k = j
    · rw [if_pos hkj]; exact ⟨cv (ownC_base (ownC_mono p6 h8) hB) (by decide) (by decide), cv (ownC_base (ownC_mono p7 h8) hB) (by decide) (by decide)⟩
    · rw [if_neg hkj]; exact ⟨cv (ownC_mono (h.z k (by omega)).1 hall) (by decide) (by decide), cv (ownC_mono (h.z k (by omega)).2 hall) (by decide) (by decide)⟩

set_option maxRecDepth 100000 in
set_option maxHeartbeats 16000000 in
theorem rcopy_any (x : Pr) (w : World) (hx : x.at w) (fx : x.fit) (l1 : x.nn ≤ 100) (l2 : x.fn ≤ 200) (l3 : x.vm ≤ 50) (l4 : ∀ k, k < x.nn → (x.nf k).m ≤ 50 ∧ (x.nf k).n ≤ 50) :
    Calls Tryd.prog 30 #[.agg x.cs] w (RCopyP x w) := by
  obtain ⟨w1, hw1⟩ : ∃ W, (w.alloc (.cells x.cs 30)).alloc (.cells #[.string ⟨#[]⟩, .slice none 0 0, .slice none 0 0, .slice none 0 0] 30) = W := ⟨_, rfl⟩
  have hb1 : Below w.heap.size w w1 := by rw [← hw1]; exact ((Below.refl _ _).alloc (Nat.le_refl _) _).alloc (by simp) _
  have BX : Hid (∀ W : World, Below w1.heap.size w1 W → (W.cell? ⟨w.heap.size, 0, none⟩ = some (.string x.name) ∧ W.cell? ⟨w.heap.size, 1, none⟩ = some (.slice x.vo x.vm x.vc) ∧ W.cell? ⟨w.heap.size, 2, none⟩ = some (.slice x.no x.nn x.nc) ∧ W.cell? ⟨w.heap.size, 3, none⟩ = some (.slice x.fo x.fn x.fc)) ∧
      (W.cell? ⟨w.heap.size + 1, 0, none⟩ = some (.string ⟨#[]⟩) ∧ W.cell? ⟨w.heap.size + 1, 1, none⟩ = some (.slice none 0 0) ∧ W.cell? ⟨w.heap.size + 1, 2, none⟩ = some (.slice none 0 0) ∧ W.cell? ⟨w.heap.size + 1, 3, none⟩ = some (.slice none 0 0)) ∧ ∀ o, W.frozen? ⟨w.heap.size + 1, o, none⟩ = false) := Lib.hid (fun W hb => by
    have hl : w.heap.size + 1 < w1.heap.size := by rw [← hw1]; simp
    simp only [fun o => hb.cell (p := ⟨w.heap.size, o, none⟩) (Nat.lt_of_succ_lt hl), fun o => hb.cell (p := ⟨w.heap.size + 1, o, none⟩) hl, fun o => hb.frozen (p := ⟨w.heap.size + 1, o, none⟩) hl]
    rw [← hw1]
    simp)
  have HW := Lib.hid hw1
  have HB1 := Lib.hid hb1
  have BH : Hid (w1.heap[w.heap.size + 1]? = some (.cells #[.string ⟨#[]⟩, .slice none 0 0, .slice none 0 0, .slice none 0 0] 30 (0, 0))) := Lib.hid (by rw [← hw1]; simpa using heap_alloc_new (w.alloc (.cells x.cs 30)) (.cells #[.string ⟨#[]⟩, .slice none 0 0, .slice none 0 0, .slice none 0 0] 30))
  have HS : Hid (w.heap.size + 1 < w1.heap.size) := Lib.hid (by rw [← hw1]; simp)
  clear hw1 hb1
  have HX := Lib.hid hx
  have FX := Lib.hid fx
  have CV : Hid (∀ W : World, Below w.heap.size w W → Rc W 4 (varL x.vf) x.vo x.vm) := Lib.hid (fun W hb => (hx.v.below hb).rc)
  have CF : Hid (∀ W : World, Below w.heap.size w W → Rc W 4 (flowL x.ff) x.fo x.fn) := Lib.hid (fun W hb => (hx.f.below hb).rc)
  have L2 : Hid (x.vm ≤ 10000 ∧ x.fn ≤ 10000) := Lib.hid ⟨by omega, by omega⟩
  have L4 : Hid (∀ k, k < x.nn → (x.nf k).m ≤ 10000 ∧ (x.nf k).n ≤ 10000) := Lib.hid (fun k hk => ⟨by have := (l4 k hk).1; omega, by have := (l4 k hk).2; omega⟩)
  have HL := Lib.hid l1
  clear hx fx l1 l2 l3 l4
  go_enter Tryd.func30, Tryd.ntmps30
  go_upto_region 1 with fail
  rw [HW.out]
  refine wp_region_asrt (by kernel_rfl) (fun W => Below w1.heap.size w1 W) (rcAF w1.heap.size w.heap.size x) rcADep rcANeed rcAAnc rcAKill 13 [some 6, some 7, some 8, some 9, some 10, some 11, some 12, some 13, some 14, some 15, some 16, some 3, none] rfl rfl (by kernel_rfl) rcADep_anc (Below.refl _ _).drew (fun j h => rcAAnc_out h) (fun j hj => by match j, hj with | _ + 13, _ => trivial) (fun j h => rcADep_out h) ⟨?_, ?_, ?_, ?_, ?_, ?_, ?_, ?_, ?_, ?_, ?_, ?_, ?_, trivial⟩ ?_
  · refine Step.mk (oi := _) rfl [] (fun cs b h => by cases h) (by kernel_rfl) (fun vs W hI hA => ?_)
    simp only [List.map]
    simp only [putR]
    refine SOp.val (v := .pointer (some ⟨w.heap.size, 0, none⟩)) (w' := W) (by kernel_rfl) (by go_simp) ⟨hI, upd_self _ _ _, fun _ _ _ _ _ h => h⟩
  · refine Step.mk (oi := _) rfl [(6, 0)] (fun cs b h => by cases h) (by kernel_rfl) (fun vs W hI hA => ?_)
    simp only [List.map]
    have h0 : vs 0 = .pointer (some ⟨w.heap.size, 0, none⟩) := hA 0 (by decide)
    rw [h0]
    obtain ⟨⟨q0, q1, q2, q3⟩, _⟩ := BX.out _ hI
    simp only [putR, Act.put, List.setIfInBounds_toArray, List.set_cons_zero, List.set_cons_succ]
    refine SOp.val (v := .string x.name) (w' := W) (by kernel_rfl) (by go_simp) ⟨hI, upd_self _ _ _, fun _ _ _ _ _ h => h⟩
  · refine Step.mk (oi := _) rfl [] (fun cs b h => by cases h) (by kernel_rfl) (fun vs W hI hA => ?_)
    simp only [List.map]
    simp only [putR]
    refine SOp.val (v := .slice (some ⟨W.heap.size, 0, none⟩) 0 0) (w' := W.alloc (.cells #[] 43)) (by kernel_rfl) (by go_simp) ⟨hI.alloc hI.size _, (show asrt (rcAF w1.heap.size w.heap.size x) rcADep 2 (upd vs 2 _) _ from by show World.ownsRow _ _ _ _ (upd vs 2 _ 2) _ _; rw [upd_self]; exact World.ownsRow_made W #[] 0 hI.size (Nat.zero_le _) rfl), fun _ _ _ _ _ h => rcAF_mono ((Below.refl _ _).alloc (Nat.le_refl _) _) h⟩
  · refine Step.mk (oi := _) rfl [] (fun cs b h => by cases h) (by kernel_rfl) (fun vs W hI hA => ?_)
    simp only [List.map]
    simp only [putR]
    refine SOp.val (v := .pointer (some ⟨w.heap.size, 1, none⟩)) (w' := W) (by kernel_rfl) (by go_simp) ⟨hI, upd_self _ _ _, fun _ _ _ _ _ h => h⟩
  · refine Step.mk (oi := _) rfl [(9, 3)] (fun cs b h => by cases h) (by kernel_rfl) (fun vs W hI hA => ?_)
    simp only [List.map]
    have h3 : vs 3 = .pointer (some ⟨w.heap.size, 1, none⟩) := hA 3 (by decide)
    rw [h3]
    obtain ⟨⟨q0, q1, q2, q3⟩, _⟩ := BX.out _ hI
    simp only [putR, Act.put, List.setIfInBounds_toArray, List.set_cons_zero, List.set_cons_succ]
    refine SOp.val (v := .slice x.vo x.vm x.vc) (w' := W) (by kernel_rfl) (by go_simp) ⟨hI, upd_self _ _ _, fun _ _ _ _ _ h => h⟩
  · refine Step.mk (oi := _) rfl [(8, 2), (10, 4)] (fun cs b h => by cases h) (by kernel_rfl) (fun vs W hI hA => ?_)
    simp only [List.map]
    have h4 : vs 4 = .slice x.vo x.vm x.vc := hA 4 (by decide)
    rw [h4]
    have h2 : W.ownsRow w1.heap.size 43 4 (vs 2) 0 [] := hA 2 (by decide)
    have hl := L2.out.1
    obtain ⟨v', W', hr, ho, hgr⟩ := rapp_var W w1.heap.size (vs 2) h2 _ _ x.vc _ (CV.out W (below_step HB1.out hI)) hl hI.size
    clear hl
    simp only [putR, Act.put, List.setIfInBounds_toArray, List.set_cons_zero, List.set_cons_succ]
    refine SOp.val (v := v') (w' := W') (by kernel_rfl) (by simp [execOp, resolve, invoke, builtin, Act.eval, hr, Result.andThen]) ⟨hI.trans (grown_below h2 hI.size hgr), (show asrt (rcAF w1.heap.size w.heap.size x) rcADep 5 (upd vs 5 v') W' from by show World.ownsRow _ _ _ _ (upd vs 5 _ 5) _ _; rw [upd_self]; exact ho), ?_⟩
    · intro j vs' a1 a2 a3 a4
      by_cases e6 : j = 6
      · subst e6; exact own_other a4 h2 (by decide) hgr
      by_cases e9 : j = 9
      · subst e9; exact own_other a4 h2 (by decide) hgr
      by_cases e11 : j = 11
      · subst e11; obtain ⟨g, a5, a6, a7⟩ := a4; exact ⟨g, a5, a6, grown_block h2 hgr a7 (by decide)⟩
      exact rcAKeep [6, 9, 11] (i := 5) (by decide) j vs' a1 a2 a3 (by simp [e6, e9, e11]) a4
  · refine Step.mk (oi := _) rfl [] (fun cs b h => by cases h) (by kernel_rfl) (fun vs W hI hA => ?_)
    simp only [List.map]
    simp only [putR]
    refine SOp.val (v := .slice (some ⟨W.heap.size, 0, none⟩) 0 0) (w' := W.alloc (.cells #[] 48)) (by kernel_rfl) (by go_simp) ⟨hI.alloc hI.size _, (show asrt (rcAF w1.heap.size w.heap.size x) rcADep 6 (upd vs 6 _) _ from by show World.ownsRow _ _ _ _ (upd vs 6 _ 6) _ _; rw [upd_self]; exact World.ownsRow_made W #[] 0 hI.size (Nat.zero_le _) rfl), fun _ _ _ _ _ h => rcAF_mono ((Below.refl _ _).alloc (Nat.le_refl _) _) h⟩
  · refine Step.mk (oi := _) rfl [] (fun cs b h => by cases h) (by kernel_rfl) (fun vs W hI hA => ?_)
    simp only [List.map]
    simp only [putR]
    refine SOp.val (v := .pointer (some ⟨w.heap.size, 3, none⟩)) (w' := W) (by kernel_rfl) (by go_simp) ⟨hI, upd_self _ _ _, fun _ _ _ _ _ h => h⟩
  · refine Step.mk (oi := _) rfl [(13, 7)] (fun cs b h => by cases h) (by kernel_rfl) (fun vs W hI hA => ?_)
    simp only [List.map]
    have h7 : vs 7 = .pointer (some ⟨w.heap.size, 3, none⟩) := hA 7 (by decide)
    rw [h7]
    obtain ⟨⟨q0, q1, q2, q3⟩, _⟩ := BX.out _ hI
    simp only [putR, Act.put, List.setIfInBounds_toArray, List.set_cons_zero, List.set_cons_succ]
    refine SOp.val (v := .slice x.fo x.fn x.fc) (w' := W) (by kernel_rfl) (by go_simp) ⟨hI, upd_self _ _ _, fun _ _ _ _ _ h => h⟩
  · refine Step.mk (oi := _) rfl [(12, 6), (14, 8)] (fun cs b h => by cases h) (by kernel_rfl) (fun vs W hI hA => ?_)
    simp only [List.map]
    have h8 : vs 8 = .slice x.fo x.fn x.fc := hA 8 (by decide)
    rw [h8]
    have h6 : W.ownsRow w1.heap.size 48 4 (vs 6) 0 [] := hA 6 (by decide)
    have hl := L2.out.2
    obtain ⟨v', W', hr, ho, hgr⟩ := rapp_flow W w1.heap.size (vs 6) h6 _ _ x.fc _ (CF.out W (below_step HB1.out hI)) hl hI.size
    clear hl
    simp only [putR, Act.put, List.setIfInBounds_toArray, List.set_cons_zero, List.set_cons_succ]
    refine SOp.val (v := v') (w' := W') (by kernel_rfl) (by simp [execOp, resolve, invoke, builtin, Act.eval, hr, Result.andThen]) ⟨hI.trans (grown_below h6 hI.size hgr), (show asrt (rcAF w1.heap.size w.heap.size x) rcADep 9 (upd vs 9 v') W' from by show World.ownsRow _ _ _ _ (upd vs 9 _ 9) _ _; rw [upd_self]; exact ho), ?_⟩
    · intro j vs' a1 a2 a3 a4
      by_cases e2 : j = 2
      · subst e2; exact own_other a4 h6 (by decide) hgr
      by_cases e5 : j = 5
      · subst e5; exact own_other a4 h6 (by decide) hgr
      by_cases e11 : j = 11
      · subst e11; obtain ⟨g, a5, a6, a7⟩ := a4; exact ⟨g, a5, a6, grown_block h6 hgr a7 (by decide)⟩
      exact rcAKeep [2, 5, 11] (i := 9) (by decide) j vs' a1 a2 a3 (by simp [e2, e5, e11]) a4
  · refine Step.mk (oi := _) rfl [(7, 1), (11, 5), (15, 9)] (fun cs b h => by cases h) (by kernel_rfl) (fun vs W hI hA => ?_)
    simp only [List.map]
    have h1 : vs 1 = .string x.name := hA 1 (by decide)
    rw [h1]
    obtain ⟨o5, c5, h5, _⟩ := ownC_form (hA 5 (by decide))
    obtain ⟨o9, c9, h9, _⟩ := ownC_form (hA 9 (by decide))
    rw [h5, h9]
    simp only [putR, Act.put, List.setIfInBounds_toArray, List.set_cons_zero, List.set_cons_succ]
    refine SOp.val (v := .agg #[.string x.name, .slice o5 x.vm c5, .slice none 0 0, .slice o9 x.fn c9]) (w' := W) (by kernel_rfl) (by go_simp) ⟨hI, ?_, fun _ _ _ _ _ h => h⟩
    show upd vs 10 _ 10 = .agg #[.string x.name, vs 5, .slice none 0 0, vs 9]
    rw [upd_self, h5, h9]
  · refine Step.mk (oi := _) rfl [] (fun cs b h => by cases h) (by kernel_rfl) (fun vs W hI hA => ?_)
    simp only [List.map]
    simp only [putR]
    refine SOp.val (v := .pointer (some ⟨W.heap.size, 0, none⟩)) (w' := W.alloc (.cells #[.string ⟨#[]⟩, .slice none 0 0, .slice none 0 0, .slice none 0 0] 30)) (by kernel_rfl) (by go_simp) ⟨hI.alloc hI.size _, ⟨W.heap.size, upd_self _ _ _, hI.size, heap_alloc_new _ _⟩, fun _ _ _ _ _ h => rcAF_mono ((Below.refl _ _).alloc (Nat.le_refl _) _) h⟩
  · refine Step.mk (oi := _) rfl [(3, 11), (16, 10)] (fun cs b h => by cases h) (by kernel_rfl) (fun vs W hI hA => ?_)
    simp only [List.map]
    obtain ⟨o5, c5, h5, _⟩ := ownC_form (hA 5 (by decide))
    obtain ⟨o9, c9, h9, _⟩ := ownC_form (hA 9 (by decide))
    have h10 : vs 10 = .agg #[.string x.name, vs 5, .slice none 0 0, vs 9] := hA 10 (by decide)
    rw [h5, h9] at h10
    obtain ⟨g, hg, hgB, hh⟩ := hA 11 (by decide)
    rw [h10, hg]
    simp only [putR, Act.put, List.setIfInBounds_toArray, List.set_cons_zero, List.set_cons_succ]
    have k0 := cell_in hh 0
    have k1 := cell_in hh 1
    have k2 := cell_in hh 2
    have k3 := cell_in hh 3
    have kf := froz_in hh
    simp at k0 k1 k2 k3
    have hbt : But g W ((((W.setCell ⟨g, 0, none⟩ (.string x.name)).setCell ⟨g, 1, none⟩ (.slice o5 x.vm c5)).setCell ⟨g, 2, none⟩ (.slice none 0 0)).setCell ⟨g, 3, none⟩ (.slice o9 x.fn c9)) := (((But.setCell _ _ _ _).trans (But.setCell _ _ _ _)).trans (But.setCell _ _ _ _)).trans (But.setCell _ _ _ _)
    refine SOp.done (w' := ((((W.setCell ⟨g, 0, none⟩ (.string x.name)).setCell ⟨g, 1, none⟩ (.slice o5 x.vm c5)).setCell ⟨g, 2, none⟩ (.slice none 0 0)).setCell ⟨g, 3, none⟩ (.slice o9 x.fn c9))) (by kernel_rfl) (by go_simp) ⟨?_, ?_, ?_⟩
    · exact (((hI.setCell hgB _).setCell hgB _).setCell hgB _).setCell hgB _
    · refine ⟨g, ?_, hgB, ?_⟩
      · exact hg
      · show _ = some (Obj.cells #[.string x.name, vs 5, .slice none 0 0, vs 9] _ _)
        rw [h5, h9]
        exact But.heap (But.heap (But.heap (But.heap hh)))
    · intro j vs' a1 a2 a3 a4
      by_cases e2 : j = 2
      · subst e2; exact ownC_but a4 hh (by decide) hbt
      by_cases e5 : j = 5
      · subst e5; exact ownC_but a4 hh (by decide) hbt
      by_cases e6 : j = 6
      · subst e6; exact ownC_but a4 hh (by decide) hbt
      by_cases e9 : j = 9
      · subst e9; exact ownC_but a4 hh (by decide) hbt
      exact rcAKeep [2, 5, 6, 9] (i := 12) (by decide) j vs' a1 a2 a3 (by simp [e2, e5, e6, e9]) a4
  · intro vs W hI hφ
    obtain ⟨g, hg, hgB, hh⟩ := hφ 12 (fun k _ => by simp [rcAKill])
    have ho5 : W.ownsRow w1.heap.size 43 4 (vs 5) x.vm (rcs (varL x.vf) 0 x.vm) := hφ 5 (fun k _ => by simp [rcAKill])
    have ho9 : W.ownsRow w1.heap.size 48 4 (vs 9) x.fn (rcs (flowL x.ff) 0 x.fn) := hφ 9 (fun k _ => by simp [rcAKill])
    replace hg : vs 11 = .pointer (some ⟨g, 0, none⟩) := hg
    replace hh : W.heap[g]? = some (.cells #[.string x.name, vs 5, .slice none 0 0, vs 9] 30 (0, 0)) := hh
    obtain ⟨o5, c5, h5, _⟩ := ownC_form ho5
    obtain ⟨o9, c9, h9, _⟩ := ownC_form ho9
    rw [h5] at ho5 hh
    rw [h9] at ho9 hh
    simp only [putAll, Act.put, List.setIfInBounds_toArray, List.set_cons_zero, List.set_cons_succ]
    rw [hg]
    have HI0 : Hid (RcI w1.heap.size x (.slice o5 x.vm c5) (.slice none 0 0) (.slice o9 x.fn c9) g 0 x.nf W) := Lib.hid ⟨World.ownsRow_nil _ _ _ _, fun _ => ⟨rfl, rfl, rfl, rfl, rfl⟩, fun _ _ => rfl, fun k hk => by omega, ho5, ho9, hgB, hh⟩
    have HBW := Lib.hid hI
    clear hφ hg hh ho5 ho9 h5 h9 hI hgB
    go_wp2_with fail
    go_loopw [4] (fun i wr => RcR w1.heap.size x (.slice o5 x.vm c5) (.slice o9 x.fn c9) g w1 i wr) (fun i _ => x.nn - (intOf i).toNat)
    case atStart => exact ⟨0, none, 0, x.nf, Nat.zero_le _, rfl, Nat.le_refl _, HI0.out, HBW.out⟩
    case round =>
      clear HI0 HBW
      obtain ⟨j, oN, cN, F, hj, rfl, hcN, hI, hB⟩ := hrel
      have HI := Lib.hid hI
      have HB := Lib.hid hB
      clear hI hB
      obtain ⟨⟨s0, s1, s2, s3⟩, _⟩ := BX.out _ HB.out
      by_cases hlt : j < x.nn
      · obtain ⟨b, off, hno, hb, hat, c0, c1, c2, c3, c4, c5, c6, c7, c8, c9, c10⟩ := (HX.out.n.below (below_step HB1.out HB.out)) j hlt
        rw [hno] at s2
        have AT := Lib.hid hat
        have LL := Lib.hid (L4.out j hlt)
        have HRST := Lib.hid (HI.out.rest j (Nat.le_refl _))
        have HGW : Hid (g < wr.heap.size) := Lib.hid (Array.getElem?_eq_some_iff.1 HI.out.g).1
        have i1 : (j : Int) < (x.nn : Int) := by omega
        have i2 : (0 : Int) ≤ (j : Int) := by omega
        have i3 : (j : Int) ≤ 100 := by have := HL.out; omega
        clear hat hno hb s0 s1 s3
        go_upto_region 6 with fail
        obtain ⟨W5, hW5⟩ : ∃ W, (wr.alloc (.cells #[(.string (x.nf j).d.name), (.int .u8 (x.nf j).d.kind), (.int .i64 (x.nf j).d.inn), (.int .i64 (x.nf j).d.on), (.int .u8 (x.nf j).d.event), (.string (x.nf j).d.key), (.string (x.nf j).d.text), (.string (x.nf j).d.set), (.bool (x.nf j).d.breaks), (.slice (x.nf j).o (x.nf j).m (x.nf j).c), (.slice (x.nf j).p (x.nf j).n (x.nf j).q)] 25)) = W := ⟨_, rfl⟩
        rw [hW5]
        have hn5 : W5.heap[wr.heap.size]? = some (.cells (x.nf j).cs 25 (0, 0)) := by rw [← hW5]; exact heap_alloc_new _ _
        have hb5 : Below wr.heap.size wr W5 := by rw [← hW5]; exact (Below.refl _ _).alloc (Nat.le_refl _) _
        clear hW5 c0 c1 c2 c3 c4 c5 c6 c7 c8 c9 c10 s2
        have ow6 : (W5.alloc (.cells #[] 43)).ownsRow W5.heap.size 43 4 (.slice (some ⟨W5.heap.size, 0, none⟩) 0 0) 0 [] := World.ownsRow_made W5 #[] 0 (Nat.le_refl _) (Nat.zero_le _) rfl
        have ba6 : Below W5.heap.size W5 (W5.alloc (.cells #[] 43)) := (Below.refl _ _).alloc (Nat.le_refl _) _
        obtain ⟨v6, w6, hr6, ho6, hg6⟩ := rapp_var (W5.alloc (.cells #[] 43)) W5.heap.size _ ow6 (x.nf j).o (x.nf j).m (x.nf j).c (x.nf j).f (AT.out.1.below (below_step hb5 ba6)).rc LL.out.1 ba6.size
        obtain ⟨o6, c6, rfl, _⟩ := ownC_form ho6
        have hb6a : Below W5.heap.size W5 w6 := ba6.trans (grown_below ow6 ba6.size hg6)
        have hn6a : w6.heap[wr.heap.size]? = some (.cells (x.nf j).cs 25 (0, 0)) := by rw [hb6a.block _ (Array.getElem?_eq_some_iff.1 hn5).1]; exact hn5
        have kc6 : (W5.alloc (.cells #[] 43)).cell? ⟨wr.heap.size, 9, none⟩ = some (.slice (x.nf j).o (x.nf j).m (x.nf j).c) := by rw [ba6.cell (p := ⟨wr.heap.size, 9, none⟩) (Array.getElem?_eq_some_iff.1 hn5).1, cell_in hn5 9]; rfl
        have kd6 : w6.cell? ⟨wr.heap.size, 9, none⟩ = some (.slice (x.nf j).o (x.nf j).m (x.nf j).c) := by rw [cell_in hn6a 9]; rfl
        have kf6 := froz_in hn6a 9
        go_upto_region 7 with (at_builtin; refine wpList_run rfl (.slice o6 (x.nf j).m c6) w6 (by simp [execOp, resolve, invoke, builtin, Act.eval, hr6, Result.andThen]) ?_)
        obtain ⟨W6, hW6⟩ : ∃ W, w6.setCell ⟨wr.heap.size, 9, none⟩ (.slice o6 (x.nf j).m c6) = W := ⟨_, rfl⟩
        rw [hW6]
        have hbt6 : But wr.heap.size w6 W6 := by rw [← hW6]; exact But.setCell _ _ _ _
        have hn6 : W6.heap[wr.heap.size]? = some (.cells (nodeC (x.nf j).d (.slice o6 (x.nf j).m c6) (.slice (x.nf j).p (x.nf j).n (x.nf j).q)) 25 (0, 0)) := by rw [← hW6]; exact But.heap hn6a
        have hb6 : Below wr.heap.size wr W6 := (below_step hb5 hb6a).trans (hbt6.below (Nat.le_refl _) (Nat.le_of_lt (Array.getElem?_eq_some_iff.1 hn6a).1))
        have ho6b : W6.ownsRow wr.heap.size 43 4 (.slice o6 (x.nf j).m c6) (x.nf j).m (rcs (varL (x.nf j).f) 0 (x.nf j).m) := ownC_base (ownC_but ho6 hn6a (by decide) hbt6) hb5.size
        clear hW6 hbt6 kf6 kd6 kc6 hn6a hb6a hr6 ho6 hg6 ow6 ba6 hn5 hb5
        have ow7 : (W6.alloc (.cells #[] 9)).ownsRow W6.heap.size 9 1 (.slice (some ⟨W6.heap.size, 0, none⟩) 0 0) 0 [] := World.ownsRow_made W6 #[] 0 (Nat.le_refl _) (Nat.zero_le _) rfl
        have ba7 : Below W6.heap.size W6 (W6.alloc (.cells #[] 9)) := (Below.refl _ _).alloc (Nat.le_refl _) _
        obtain ⟨v7, w7, hr7, ho7, hg7⟩ := rapp_str (W6.alloc (.cells #[] 9)) W6.heap.size _ ow7 (x.nf j).p (x.nf j).n (x.nf j).q (x.nf j).g (AT.out.2.below (below_step hb6 ba7)).rc LL.out.2 ba7.size
        obtain ⟨o7, c7, rfl, _⟩ := ownC_form ho7
        have hb7a : Below W6.heap.size W6 w7 := ba7.trans (grown_below ow7 ba7.size hg7)
        have hn7a : w7.heap[wr.heap.size]? = some (.cells (nodeC (x.nf j).d (.slice o6 (x.nf j).m c6) (.slice (x.nf j).p (x.nf j).n (x.nf j).q)) 25 (0, 0)) := by rw [hb7a.block _ (Array.getElem?_eq_some_iff.1 hn6).1]; exact hn6
        have kc7 : (W6.alloc (.cells #[] 9)).cell? ⟨wr.heap.size, 10, none⟩ = some (.slice (x.nf j).p (x.nf j).n (x.nf j).q) := by rw [ba7.cell (p := ⟨wr.heap.size, 10, none⟩) (Array.getElem?_eq_some_iff.1 hn6).1, cell_in hn6 10]; rfl
        have kd7 : w7.cell? ⟨wr.heap.size, 10, none⟩ = some (.slice (x.nf j).p (x.nf j).n (x.nf j).q) := by rw [cell_in hn7a 10]; rfl
        have kf7 := froz_in hn7a 10
        go_upto_region 8 with (at_builtin; refine wpList_run rfl (.slice o7 (x.nf j).n c7) w7 (by simp [execOp, resolve, invoke, builtin, Act.eval, hr7, Result.andThen]) ?_)
        obtain ⟨W7, hW7⟩ : ∃ W, w7.setCell ⟨wr.heap.size, 10, none⟩ (.slice o7 (x.nf j).n c7) = W := ⟨_, rfl⟩
        rw [hW7]
        have hbt7 : But wr.heap.size w7 W7 := by rw [← hW7]; exact But.setCell _ _ _ _
        have hn7 : W7.heap[wr.heap.size]? = some (.cells (nodeC (x.nf j).d (.slice o6 (x.nf j).m c6) (.slice o7 (x.nf j).n c7)) 25 (0, 0)) := by rw [← hW7]; exact But.heap hn7a
        have hb7 : Below wr.heap.size wr W7 := (below_step hb6 hb7a).trans (hbt7.below (Nat.le_refl _) (Nat.le_of_lt (Array.getElem?_eq_some_iff.1 hn7a).1))
        have ho6c : W7.ownsRow wr.heap.size 43 4 (.slice o6 (x.nf j).m c6) (x.nf j).m (rcs (varL (x.nf j).f) 0 (x.nf j).m) := ownC_but (ownC_mono ho6b hb7a) hn7a (by decide) hbt7
        have ho7b : W7.ownsRow wr.heap.size 9 1 (.slice o7 (x.nf j).n c7) (x.nf j).n (rcs (strL (x.nf j).g) 0 (x.nf j).n) := ownC_base (ownC_but ho7 hn7a (by decide) hbt7) hb6.size
        clear hW7 hbt7 kf7 kd7 kc7 hn7a hb7a hr7 ho7 hg7 ow7 ba7 hn6 hb6 ho6b
        have H7 := Lib.hid hn7
        have HB7 := Lib.hid hb7
        have HO6 := Lib.hid ho6c
        have HO7 := Lib.hid ho7b
        have ba8 : Below W7.heap.size W7 (W7.alloc (.cells (nodeC (x.nf j).d (.slice o6 (x.nf j).m c6) (.slice o7 (x.nf j).n c7)) 25)) := (Below.refl _ _).alloc (Nat.le_refl _) _
        have hg7 : W7.heap[g]? = some (.cells #[.string x.name, .slice o5 x.vm c5, .slice oN j cN, .slice o9 x.fn c9] 30 (0, 0)) := by rw [hb7.block g HGW.out]; exact HI.out.g
        have hn8 := ownC_mono HI.out.n (below_step hb7 ba8)
        have hnw : ∀ i u, ((nodeC (x.nf j).d (.slice o6 (x.nf j).m c6) (.slice o7 (x.nf j).n c7)).toList)[i]? = some u → (W7.alloc (.cells (nodeC (x.nf j).d (.slice o6 (x.nf j).m c6) (.slice o7 (x.nf j).n c7)) 25)).cell? ((Addr.mk W7.heap.size 0 none).add i) = some u := by
          intro i u hi
          rw [Addr.add_lit, cell_in (heap_alloc_new _ _), Nat.zero_add]
          simpa using hi
        have hl := HL.out
        obtain ⟨v8, w8, hr8, ho8, hg8⟩ := app_node (W7.alloc (.cells (nodeC (x.nf j).d (.slice o6 (x.nf j).m c6) (.slice o7 (x.nf j).n c7)) 25)) w1.heap.size _ j _ hn8 ⟨W7.heap.size, 0, none⟩ 1 1 (nodeC (x.nf j).d (.slice o6 (x.nf j).m c6) (.slice o7 (x.nf j).n c7)).toList rfl hnw (by intro u hu; simp at hu; rcases hu with h | h | h | h | h | h | h | h | h | h | h <;> subst h <;> rfl) (by omega) (by have := HB.out.size; have := hb7.size; have := ba8.size; omega)
        clear hl
        obtain ⟨oM, cM, rfl, hcM⟩ := ownC_form ho8
        have hg8b : w8.heap[g]? = some (.cells #[.string x.name, .slice o5 x.vm c5, .slice oN j cN, .slice o9 x.fn c9] 30 (0, 0)) := grown_block hn8 hg8 (by rw [ba8.block g (Array.getElem?_eq_some_iff.1 hg7).1]; exact hg7) (by decide)
        have HN : Hid (RcR w1.heap.size x (.slice o5 x.vm c5) (.slice o9 x.fn c9) g w1 (.int .i64 (j + 1 : Nat)) (w8.setCell ⟨g, 2, none⟩ (.slice oM (j + 1) cM))) := Lib.hid ⟨j + 1, oM, cM, _, hlt, rfl, hcM,
          RcI.more HI.out HB.out.size HB7.out ba8 HO6.out HO7.out ho8 hg8 (But.setCell _ _ _ _) (But.heap hg8b),
          (HB.out.trans ((below_step hb7 ba8).mono HB.out.size)).trans ((grown_below hn8 (by have := HB.out.size; have := hb7.size; have := ba8.size; omega) hg8).trans ((But.setCell _ _ _ _).below HI.out.hg (by have := HB.out.size; have := hb7.size; have := ba8.size; have := hg8.size; have := HGW.out; omega)))⟩
        have k2 := cell_in hg7 2
        simp at k2
        have n0 := cell_in hn7 0
        have n1 := cell_in hn7 1
        have n2 := cell_in hn7 2
        have n3 := cell_in hn7 3
        have n4 := cell_in hn7 4
        have n5 := cell_in hn7 5
        have n6 := cell_in hn7 6
        have n7 := cell_in hn7 7
        have n8 := cell_in hn7 8
        have n9 := cell_in hn7 9
        have n10 := cell_in hn7 10
        simp at n0 n1 n2 n3 n4 n5 n6 n7 n8 n9 n10
        have k3 := cell_in hg8b 2
        simp at k3
        have kf := froz_in hg8b 2
        clear hn7 hb7 ho6c ho7b hg7 hn8 hnw ho8 hg8 hcM hg8b ba8 HRST LL AT HO6 HO7 HB7 H7 HGW
        go_wp2_with (at_builtin; refine wpList_run rfl (.slice oM (j + 1) cM) w8 (by simp [execOp, resolve, invoke, builtin, Act.eval, hr8, Result.andThen]) ?_)
        go_roundw
        case rel => rw [show ((j + 1 : Nat) : Int) = (j : Int) + 1 from rfl] at HN; (repeat apply Exists.intro); exact ⟨HN.out, rfl⟩
        case measure => simp [intOf]; omega
      · obtain rfl : j = x.nn := by omega
        have k0 := cell_in HI.out.g 0
        have k1 := cell_in HI.out.g 1
        have k2 := cell_in HI.out.g 2
        have k3 := cell_in HI.out.g 3
        simp at k0 k1 k2 k3
        obtain ⟨_, ⟨r0, r1, r2, r3⟩, rf⟩ := BX.out _ HB.out
        have hbt : Hid (But (w.heap.size + 1) wr ((((wr.setCell ⟨w.heap.size + 1, 0, none⟩ (.string x.name)).setCell ⟨w.heap.size + 1, 1, none⟩ (.slice o5 x.vm c5)).setCell ⟨w.heap.size + 1, 2, none⟩ (.slice oN x.nn cN)).setCell ⟨w.heap.size + 1, 3, none⟩ (.slice o9 x.fn c9))) := Lib.hid ((((But.setCell _ _ _ _).trans (But.setCell _ _ _ _)).trans (But.setCell _ _ _ _)).trans (But.setCell _ _ _ _))
        have hbh : Hid (wr.heap[w.heap.size + 1]? = some (.cells #[.string ⟨#[]⟩, .slice none 0 0, .slice none 0 0, .slice none 0 0] 30 (0, 0))) := Lib.hid (by rw [HB.out.block _ HS.out]; exact BH.out)
        go_wp2_with fail
        refine bodyPost_ret (v := .agg #[.string x.name, .slice o5 x.vm c5, .slice oN x.nn cN, .slice o9 x.fn c9]) (by simp [results, Tryd.results30, go_sem, r0, r1, r2, r3]) rfl ?_
        obtain ⟨y, hy⟩ : ∃ y : Pr, (⟨x.name, o5, x.vm, c5, x.vf, oN, x.nn, cN, F, o9, x.fn, c9, x.ff⟩ : Pr) = y := ⟨_, rfl⟩
        have ho : y.at _ := Pr.rows_at (w := ((((wr.setCell ⟨w.heap.size + 1, 0, none⟩ (.string x.name)).setCell ⟨w.heap.size + 1, 1, none⟩ (.slice o5 x.vm c5)).setCell ⟨w.heap.size + 1, 2, none⟩ (.slice oN x.nn cN)).setCell ⟨w.heap.size + 1, 3, none⟩ (.slice o9 x.fn c9))) (B := w1.heap.size) (by rw [← hy]; exact ownC_but HI.out.v hbh.out (by decide) hbt.out) (by rw [← hy]; exact ownC_but HI.out.n hbh.out (by decide) hbt.out) (by rw [← hy]; exact ownC_but HI.out.f hbh.out (by decide) hbt.out) (by rw [← hy]; exact fun k hk => ⟨ownC_but (HI.out.z k hk).1 hbh.out (by decide) hbt.out, ownC_but (HI.out.z k hk).2 hbh.out (by decide) hbt.out⟩)
        have hfit : y.fit := by
          obtain ⟨f1, f2, f3, f4, f5, f6, f7, f8, f9, f10⟩ := FX.out
          obtain ⟨_, _, e1, l1⟩ := ownC_form HI.out.v
          obtain ⟨_, _, e3, l3⟩ := ownC_form HI.out.f
          simp only [Value.slice.injEq, true_and] at e1 e3
          obtain ⟨rfl, rfl⟩ := e1
          obtain ⟨rfl, rfl⟩ := e3
          rw [← hy]
          refine ⟨f1, f2, fun k => ?_, f4, f5, f6, f7, l1, hcN, l3⟩
          show (F k).fit
          by_cases hk : x.nn ≤ k
          · rw [HI.out.rest k hk]; exact f3 k
          · obtain ⟨q1, q2, q3, q4, q5⟩ := HI.out.d k
            obtain ⟨g1, g2, g3, g4, g5, g6, g7⟩ := f3 k
            obtain ⟨_, u1, u2⟩ := Nod.own_at (HI.out.z k (by omega))
            exact ⟨by rw [q1]; exact g1, by rw [q3]; exact g2, by rw [q5]; exact g3, by rw [q2]; exact g4, by rw [q4]; exact g5, u1, u2⟩
        refine ⟨y, by rw [← hy], by rw [← hy]; exact ⟨rfl, rfl, rfl, rfl, HI.out.d, rfl, rfl⟩, ho, hfit, ?_⟩
        exact (below_step HB1.out HB.out).trans (hbt.out.below (Nat.le_succ _) (by have := HB.out.size; have := HS.out; omega))
end Go.Proofs.YtdnelpmolenkoaaDoor
