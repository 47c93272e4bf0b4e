/- What save's pen writes: a number, a text, a value. Conditions: the bytes are fewer than 2^47. -/
import Derived.Test.YtjakdbahopbggaaGreatDoorZSv0
import Derived.Test.YtjakdbahopbggaaGreatDoorZK08
import Derived.Test.YtjakdbahopbggaaGreatDoorZInv2
import Derived.Deep.RegionWith
import Derived.Deep.DeepCutAuto
namespace Go.Proofs.YtjakdbahopbggaaGreatDoor
open Go.RowKit Go.Ow Go.Wi Go.Inv2

/-- the pen at block p -/
def Pn (w : World) (p : Nat) (l : List UInt8) (ok : Bool) : Prop := Two w p 95 (strL' l) (.bool ok)
theorem Pn.two {w : World} {p : Nat} {l : List UInt8} {ok : Bool} (h : Pn w p l ok) : Two w p 95 (strL' l) (.bool ok) := h
theorem Two.join {w : World} {b : Nat} {t : TypeId} {x y x' y' : Value} (h : Two w b t x y) (h' : Two w b t x' y') : Two w b t x y' := by
  unfold Two at *
  rw [h] at h'
  simp only [Option.some.injEq, Obj.cells.injEq, Array.mk.injEq, List.cons.injEq, and_true] at h'
  rw [h, h'.2]
/-- a pen at work -/
def PtI (p : Nat) (w V : World) : Prop := But p w V ∧ ∃ x y, Two V p 95 x y

set_option maxHeartbeats 1000000 in
theorem pen_num (p : Nat) (l : List UInt8) (ok : Bool) (n : Int) (w : World) (h : Pn w p l ok) (hl : l.length ≤ 140737488354000) :
    Calls Tryz.prog 18 #[pt p, .int .i64 n] w fun e w' => e = .returned (pt p) ∧ But p w w' ∧ Pn w' p (l ++ numL n) (ok && numB n) := by
  have TA := fun (w1 : World) => Wr.num_big ⟨l.toArray⟩ n w1 (by rw [mk_size]; exact hl)
  rw [numS_mk] at TA
  obtain ⟨L2, hL2⟩ : ∃ L, l ++ numL n = L := ⟨_, rfl⟩
  rw [hL2] at TA ⊢
  have h' : Two w p 95 (strL' l) (.bool ok) := h
  have HP := Lib.hid h'
  have k0 := Two.c0 h'
  have hw := Two.lt h'
  clear h h'
  have main : ∀ d : Bool, Hid ((Wr.numE n == 0) = d ∧ numB n = d) → Calls Tryz.prog 18 #[pt p, .int .i64 n] w fun e w' => e = .returned (pt p) ∧ But p w w' ∧ Pn w' p L2 (ok && d) := by
    intro d hd
    obtain ⟨e1, _⟩ := hd.out
    have TA := Lib.hid TA
    clear hd
    cases ok <;>
    · go_enter Tryz.func18, Tryz.ntmps18
      go_wp2_with (go_at_call 38; with_reducible refine (TA.out w).mono ?_; rintro e w1 ⟨rfl, hb1⟩; have hT1 := HP.out.keptB hb1 hw; have t0 := Two.c0 hT1; have t1 := Two.c1 hT1; have f0 := Two.fz hT1 0; have f1 := Two.fz hT1 1)
      go_ret
      exact ⟨rfl, ((But.of_below hb1).trans (But.setCell p w1 0 _)).trans (But.setCell p _ 1 _), (hT1.set0 (strL' L2)).set1 _⟩
  have hne := numE_ne n
  cases hq : numB n
  · refine main false (Lib.hid ⟨?_, hq⟩)
    rw [hq] at hne
    simpa using hne
  · refine main true (Lib.hid ⟨?_, hq⟩)
    rw [hq] at hne
    simpa using hne

/-- what each operation of the region leaves -/
def ptxF (p : Nat) (l L2 : List UInt8) (ok d : Bool) (t : ByteArray) : Nat → Value → List Value → World → Prop
  | 0, u, _, _ => u = pt p
  | 1, u, _, _ => u = pt p
  | 2, u, _, _ => u = pt p
  | 3, u, _, _ => u = pt p
  | 4, u, _, _ => u = pt p
  | 5, u, _, _ => u = strL' l
  | 6, u, _, _ => u = .string t
  | 7, u, _, _ => u = strL' L2
  | 8, u, _, _ => u = pt p
  | 9, u, _, _ => u = pt p
  | 10, u, _, _ => u = .pointer (some ⟨p, 1, none⟩)
  | 11, u, _, _ => u = .bool ok
  | 12, u, _, _ => u = .bool ok
  | 13, u, _, _ => u = cond ok (.string t) undef
  | 14, u, _, _ => u = cond ok (.int .i64 t.size) undef
  | 15, u, _, _ => u = cond ok (.bool d) undef
  | 16, u, _, _ => u = .bool (ok && d)
  | 17, u, _, _ => u = pt p
  | 18, u, _, _ => u = pt p
  | 19, _, _, w => ∃ y, Two w p 95 (strL' L2) y
  | 20, u, _, _ => u = pt p
  | 21, u, _, _ => u = .pointer (some ⟨p, 1, none⟩)
  | 22, _, _, w => ∃ x, Two w p 95 x (.bool (ok && d))
  | 23, _, _, w => ∃ y, Two w p 95 (strL' l) y
  | 24, _, _, w => ∃ x, Two w p 95 x (.bool ok)
  | _, _, _, _ => True
def ptxAnc (i : Nat) : List Nat := ([[], [], [], [2], [2, 3], [2, 3, 4], [], [2, 3, 4, 5, 6], [], [8], [8, 9], [8, 9, 10], [2, 3, 4, 5, 6, 7, 8, 9, 10, 11], [2, 3, 4, 5, 6, 7, 8, 9, 10, 11, 12], [2, 3, 4, 5, 6, 7, 8, 9, 10, 11, 12, 13], [2, 3, 4, 5, 6, 7, 8, 9, 10, 11, 12, 13, 14], [2, 3, 4, 5, 6, 7, 8, 9, 10, 11, 12, 13, 14, 15], [0, 2, 3, 4, 5, 6, 7, 8, 9, 10, 11], [0, 2, 3, 4, 5, 6, 7, 8, 9, 10, 11, 17], [0, 2, 3, 4, 5, 6, 7, 8, 9, 10, 11, 12, 17, 18], [0, 1, 2, 3, 4, 5, 6, 7, 8, 9, 10, 11, 12, 13, 14, 15, 16, 17, 18, 19], [0, 1, 2, 3, 4, 5, 6, 7, 8, 9, 10, 11, 12, 13, 14, 15, 16, 17, 18, 19, 20], [0, 1, 2, 3, 4, 5, 6, 7, 8, 9, 10, 11, 12, 13, 14, 15, 16, 17, 18, 19, 20, 21]] : List (List Nat)).getD i []
def ptxNeed (i : Nat) : List Nat := ([[], [], [], [2], [3], [4, 23], [], [5, 6], [], [8], [9], [10, 24], [11], [12], [13, 12], [14, 12], [12, 15], [0], [17], [18, 7], [1], [20], [21, 16]] : List (List Nat)).getD i []
def ptxDep (i : Nat) : List Nat := ([[], [], [], [], [], [], [], [], [], [], [], [], [], [], [], [], [], [], [], [], [], [], []] : List (List Nat)).getD i []
def ptxKill (i j : Nat) : Bool := (i == 19 && j == 23) || (i == 22 && j == 24)
def ptxPure (j : Nat) : Bool := !([19, 22, 23, 24].contains j)
theorem ptxF_pure {j : Nat} {u : Value} {ds : List Value} {w w' : World} {p : Nat} {l L2 : List UInt8} {ok d : Bool} {t : ByteArray} (hp : ptxPure j = true) (h : ptxF p l L2 ok d t j u ds w) : ptxF p l L2 ok d t j u ds w' := by
  match j with
  | 0 => exact h
  | 1 => exact h
  | 2 => exact h
  | 3 => exact h
  | 4 => exact h
  | 5 => exact h
  | 6 => exact h
  | 7 => exact h
  | 8 => exact h
  | 9 => exact h
  | 10 => exact h
  | 11 => exact h
  | 12 => exact h
  | 13 => exact h
  | 14 => exact h
  | 15 => exact h
  | 16 => exact h
  | 17 => exact h
  | 18 => exact h
  | 19 => exact absurd hp (by decide)
  | 20 => exact h
  | 21 => exact h
  | 22 => exact absurd hp (by decide)
  | 23 => exact absurd hp (by decide)
  | 24 => exact absurd hp (by decide)
  | _ + 25 => trivial
theorem ptxF_mono {j : Nat} {u : Value} {ds : List Value} {w w' : World} {p : Nat} {l L2 : List UInt8} {ok d : Bool} {t : ByteArray} (hb : Below w.heap.size w w') (h : ptxF p l L2 ok d t j u ds w) : ptxF p l L2 ok d t j u ds w' := by
  match j with
  | 0 => exact h
  | 1 => exact h
  | 2 => exact h
  | 3 => exact h
  | 4 => exact h
  | 5 => exact h
  | 6 => exact h
  | 7 => exact h
  | 8 => exact h
  | 9 => exact h
  | 10 => exact h
  | 11 => exact h
  | 12 => exact h
  | 13 => exact h
  | 14 => exact h
  | 15 => exact h
  | 16 => exact h
  | 17 => exact h
  | 18 => exact h
  | 19 => obtain ⟨x, h⟩ := h; exact ⟨x, h.keptB hb (Two.lt h)⟩
  | 20 => exact h
  | 21 => exact h
  | 22 => obtain ⟨x, h⟩ := h; exact ⟨x, h.keptB hb (Two.lt h)⟩
  | 23 => obtain ⟨x, h⟩ := h; exact ⟨x, h.keptB hb (Two.lt h)⟩
  | 24 => obtain ⟨x, h⟩ := h; exact ⟨x, h.keptB hb (Two.lt h)⟩
  | _ + 25 => trivial
theorem ptxKeep (x : List Nat) {i : Nat} (h : ((List.range 25).all fun j => ptxPure j || j == i || ptxKill i j || (ptxAnc j).contains i || x.contains j) = true) {w w' : World} {p : Nat} {l L2 : List UInt8} {ok d : Bool} {t : ByteArray} : ∀ j (vs' : Nat → Value), j ≠ i → ptxKill i j = false → (ptxAnc j).contains i = false → (x.contains j = false) →
    asrt (ptxF p l L2 ok d t) ptxDep j vs' w → asrt (ptxF p l L2 ok d t) ptxDep j vs' w' := by
  intro j vs' h1 h2 h3 h0 h4
  by_cases hj : j < 25
  · have := List.all_eq_true.1 h j (List.mem_range.2 hj)
    rw [h2, h3, h0] at this
    simp only [Bool.or_false, Bool.or_eq_true, beq_iff_eq] at this
    rcases this with h5 | h5
    · exact ptxF_pure h5 h4
    · exact absurd h5 h1
  · exact ptxF_pure (by unfold ptxPure; simp; omega) h4
theorem ptxAnc_out {j : Nat} (h : 23 ≤ j) : ptxAnc j = [] := by
  unfold ptxAnc
  rw [List.getD_eq_getElem?_getD, List.getElem?_eq_none (by simpa using h)]
  rfl
theorem ptxDep_out {j : Nat} (h : 23 ≤ j) : ptxDep j = [] := by
  unfold ptxDep
  rw [List.getD_eq_getElem?_getD, List.getElem?_eq_none (by simpa using h)]
  rfl
theorem ptxDep_anc : ∀ j, ∀ d ∈ ptxDep j, d ∈ ptxAnc j := by
  intro j d hd
  by_cases h : j < 23
  · exact (by decide : ∀ j, j < 23 → ∀ d ∈ ptxDep j, d ∈ ptxAnc j) j h d hd
  · rw [ptxDep_out (by omega)] at hd
    cases hd
set_option maxRecDepth 100000 in
set_option maxHeartbeats 4000000 in
theorem pen_text (p : Nat) (l : List UInt8) (ok : Bool) (t : ByteArray) (w : World) (h : Pn w p l ok) (hl : l.length ≤ 140737488354000) (ht : t.size ≤ 140737488351232) :
    Calls Tryz.prog 40 #[pt p, .string t] w fun e w' => e = .returned (pt p) ∧ But p w w' ∧ Pn w' p (l ++ txt t) (ok && decide (t.size ≤ 13)) := by
  have TA := fun (w1 : World) => Wr.text_big ⟨l.toArray⟩ t w1 (by rw [mk_size]; exact hl) ht
  rw [cat_mk] at TA
  obtain ⟨L2, hL2⟩ : ∃ L, l ++ txt t = L := ⟨_, rfl⟩
  have hL2' : l ++ (enc t.size ++ t.data.toList) = L2 := hL2
  rw [hL2'] at TA
  rw [hL2]
  have TA := Lib.hid TA
  obtain ⟨d, hd⟩ : ∃ d, decide ((t.size : Int) ≤ 13) = d := ⟨_, rfl⟩
  rw [show decide (t.size ≤ 13) = d by rw [← hd]; rw [decide_eq_decide]; omega]
  have h' : Two w.drew p 95 (strL' l) (.bool ok) := h
  have HP := Lib.hid h'
  have HD := Lib.hid hd
  clear h h' hL2 hL2' hl hd
  go_enter Tryz.func40, Tryz.ntmps40
  go_upto_region 1 with fail
  refine wp_region_asrt (by kernel_rfl) (PtI p w) (ptxF p l L2 ok d t) ptxDep ptxNeed ptxAnc ptxKill 23 [some 5, some 6, some 7, some 8, some 9, some 10, some 11, some 12, some 13, some 14, some 15, some 16, some 17, some 18, some 19, some 20, some 21, some 22, some 23, none, some 24, some 25, none] rfl rfl (by kernel_rfl) ptxDep_anc ⟨But.drewN p w 1, _, _, HP.out⟩ (fun j h => ptxAnc_out h) (fun j h => by
      by_cases e1 : j = 23
      · subst e1; exact ⟨_, HP.out⟩
      by_cases e2 : j = 24
      · subst e2; exact ⟨_, HP.out⟩
      have e3 : 25 ≤ j := by omega
      match j, e3 with
      | _ + 25, _ => trivial) (fun j h => ptxDep_out h) ⟨?_, ?_, ?_, ?_, ?_, ?_, ?_, ?_, ?_, ?_, ?_, ?_, ?_, ?_, ?_, ?_, ?_, ?_, ?_, ?_, ?_, ?_, ?_, trivial⟩ ?_
  · refine Step.mk (oi := _) rfl [] (fun cs b h => by cases h) (by kernel_rfl) (fun vs W hI hA => ?_)
    simp only [List.map]
    simp only [putR]
    refine SOp.val (v := pt p) (w' := W) (by kernel_rfl) (by go_simp) ⟨hI, upd_self _ _ _, fun _ _ _ _ _ h => h⟩
  · refine Step.mk (oi := _) rfl [] (fun cs b h => by cases h) (by kernel_rfl) (fun vs W hI hA => ?_)
    simp only [List.map]
    simp only [putR]
    refine SOp.val (v := pt p) (w' := W) (by kernel_rfl) (by go_simp) ⟨hI, upd_self _ _ _, fun _ _ _ _ _ h => h⟩
  · refine Step.mk (oi := _) rfl [] (fun cs b h => by cases h) (by kernel_rfl) (fun vs W hI hA => ?_)
    simp only [List.map]
    simp only [putR]
    refine SOp.val (v := pt p) (w' := W) (by kernel_rfl) (by go_simp) ⟨hI, upd_self _ _ _, fun _ _ _ _ _ h => h⟩
  · refine Step.mk (oi := _) rfl [(7, 2)] (fun cs b h => by cases h) (by kernel_rfl) (fun vs W hI hA => ?_)
    simp only [List.map]
    have h2 : vs 2 = pt p := hA 2 (by decide)
    rw [h2]
    simp only [putR, Act.put, List.setIfInBounds_toArray, List.set_cons_zero, List.set_cons_succ]
    refine SOp.val (v := pt p) (w' := W) (by kernel_rfl) (by go_simp) ⟨hI, upd_self _ _ _, fun _ _ _ _ _ h => h⟩
  · refine Step.mk (oi := _) rfl [(8, 3)] (fun cs b h => by cases h) (by kernel_rfl) (fun vs W hI hA => ?_)
    simp only [List.map]
    have h3 : vs 3 = pt p := hA 3 (by decide)
    rw [h3]
    simp only [putR, Act.put, List.setIfInBounds_toArray, List.set_cons_zero, List.set_cons_succ]
    refine SOp.val (v := pt p) (w' := W) (by kernel_rfl) (by go_simp) ⟨hI, upd_self _ _ _, fun _ _ _ _ _ h => h⟩
  · refine Step.mk (oi := _) rfl [(9, 4)] (fun cs b h => by cases h) (by kernel_rfl) (fun vs W hI hA => ?_)
    simp only [List.map]
    have h4 : vs 4 = pt p := hA 4 (by decide)
    rw [h4]
    obtain ⟨y, hT⟩ := hA 23 (by decide)
    have c0 := Two.c0 hT
    simp only [putR, Act.put, List.setIfInBounds_toArray, List.set_cons_zero, List.set_cons_succ]
    refine SOp.val (v := strL' l) (w' := W) (by kernel_rfl) (by go_simp) ⟨hI, upd_self _ _ _, fun _ _ _ _ _ h => h⟩
  · refine Step.mk (oi := _) rfl [] (fun cs b h => by cases h) (by kernel_rfl) (fun vs W hI hA => ?_)
    simp only [List.map]
    simp only [putR]
    refine SOp.val (v := .string t) (w' := W) (by kernel_rfl) (by go_simp) ⟨hI, upd_self _ _ _, fun _ _ _ _ _ h => h⟩
  · refine Step.mk (oi := _) rfl [(10, 5), (11, 6)] (fun cs b h => by cases h) (by kernel_rfl) (fun vs W hI hA => ?_)
    simp only [List.map]
    have h5 : vs 5 = strL' l := hA 5 (by decide)
    have h6 : vs 6 = .string t := hA 6 (by decide)
    rw [h5, h6]
    simp only [putR, Act.put, List.setIfInBounds_toArray, List.set_cons_zero, List.set_cons_succ]
    refine SOp.enter (f := 72) (args := #[strL' l, .string t]) (by kernel_rfl) (by go_simp) ((TA.out W).mono ?_)
    rintro e w1 ⟨rfl, hb⟩
    obtain ⟨hB, x, y, hT⟩ := hI
    exact ⟨strL' L2, rfl, ⟨hB.trans (But.of_below hb), x, y, hT.keptB hb (Two.lt hT)⟩, upd_self _ _ _, fun _ _ _ _ _ h => ptxF_mono hb h⟩
  · refine Step.mk (oi := _) rfl [] (fun cs b h => by cases h) (by kernel_rfl) (fun vs W hI hA => ?_)
    simp only [List.map]
    simp only [putR]
    refine SOp.val (v := pt p) (w' := W) (by kernel_rfl) (by go_simp) ⟨hI, upd_self _ _ _, fun _ _ _ _ _ h => h⟩
  · refine Step.mk (oi := _) rfl [(13, 8)] (fun cs b h => by cases h) (by kernel_rfl) (fun vs W hI hA => ?_)
    simp only [List.map]
    have h8 : vs 8 = pt p := hA 8 (by decide)
    rw [h8]
    simp only [putR, Act.put, List.setIfInBounds_toArray, List.set_cons_zero, List.set_cons_succ]
    refine SOp.val (v := pt p) (w' := W) (by kernel_rfl) (by go_simp) ⟨hI, upd_self _ _ _, fun _ _ _ _ _ h => h⟩
  · refine Step.mk (oi := _) rfl [(14, 9)] (fun cs b h => by cases h) (by kernel_rfl) (fun vs W hI hA => ?_)
    simp only [List.map]
    have h9 : vs 9 = pt p := hA 9 (by decide)
    rw [h9]
    simp only [putR, Act.put, List.setIfInBounds_toArray, List.set_cons_zero, List.set_cons_succ]
    refine SOp.val (v := .pointer (some ⟨p, 1, none⟩)) (w' := W) (by kernel_rfl) (by go_simp) ⟨hI, upd_self _ _ _, fun _ _ _ _ _ h => h⟩
  · refine Step.mk (oi := _) rfl [(15, 10)] (fun cs b h => by cases h) (by kernel_rfl) (fun vs W hI hA => ?_)
    simp only [List.map]
    have h10 : vs 10 = .pointer (some ⟨p, 1, none⟩) := hA 10 (by decide)
    rw [h10]
    obtain ⟨x, hT⟩ := hA 24 (by decide)
    have c1 := Two.c1 hT
    simp only [putR, Act.put, List.setIfInBounds_toArray, List.set_cons_zero, List.set_cons_succ]
    refine SOp.val (v := .bool ok) (w' := W) (by kernel_rfl) (by go_simp) ⟨hI, upd_self _ _ _, fun _ _ _ _ _ h => h⟩
  · refine Step.mk (oi := _) rfl [(16, 11)] (fun cs b h => by cases h) (by kernel_rfl) (fun vs W hI hA => ?_)
    simp only [List.map]
    have h11 : vs 11 = .bool ok := hA 11 (by decide)
    rw [h11]
    simp only [putR, Act.put, List.setIfInBounds_toArray, List.set_cons_zero, List.set_cons_succ]
    refine SOp.val (v := .bool ok) (w' := W) (by kernel_rfl) (by go_simp) ⟨hI, upd_self _ _ _, fun _ _ _ _ _ h => h⟩
  · refine Step.mk (oi := _) rfl [(17, 12)] (fun cs b h => by cases h) (by kernel_rfl) (fun vs W hI hA => ?_)
    simp only [List.map]
    have h12 : vs 12 = .bool ok := hA 12 (by decide)
    rw [h12]
    cases ok
    · simp only [putR, Act.put, List.setIfInBounds_toArray, List.set_cons_zero, List.set_cons_succ]
      exact SOp.skipped (by kernel_rfl) ⟨hI, upd_self _ _ _, fun _ _ _ _ _ h => h⟩
    · try simp only [cond]
      simp only [putR, Act.put, List.setIfInBounds_toArray, List.set_cons_zero, List.set_cons_succ]
      refine SOp.val (v := .string t) (w' := W) (by kernel_rfl) (by go_simp) ⟨hI, upd_self _ _ _, fun _ _ _ _ _ h => h⟩
  · refine Step.mk (oi := _) rfl [(18, 13), (17, 12)] (fun cs b h => by cases h) (by kernel_rfl) (fun vs W hI hA => ?_)
    simp only [List.map]
    have h13 : vs 13 = cond ok (.string t) undef := hA 13 (by decide)
    have h12 : vs 12 = .bool ok := hA 12 (by decide)
    rw [h13, h12]
    cases ok
    · simp only [putR, Act.put, List.setIfInBounds_toArray, List.set_cons_zero, List.set_cons_succ]
      exact SOp.skipped (by kernel_rfl) ⟨hI, upd_self _ _ _, fun _ _ _ _ _ h => h⟩
    · try simp only [cond]
      simp only [putR, Act.put, List.setIfInBounds_toArray, List.set_cons_zero, List.set_cons_succ]
      refine SOp.val (v := .int .i64 t.size) (w' := W) (by kernel_rfl) (by go_simp) ⟨hI, upd_self _ _ _, fun _ _ _ _ _ h => h⟩
  · refine Step.mk (oi := _) rfl [(19, 14), (17, 12)] (fun cs b h => by cases h) (by kernel_rfl) (fun vs W hI hA => ?_)
    simp only [List.map]
    have h14 : vs 14 = cond ok (.int .i64 t.size) undef := hA 14 (by decide)
    have h12 : vs 12 = .bool ok := hA 12 (by decide)
    rw [h14, h12]
    cases ok
    · simp only [putR, Act.put, List.setIfInBounds_toArray, List.set_cons_zero, List.set_cons_succ]
      exact SOp.skipped (by kernel_rfl) ⟨hI, upd_self _ _ _, fun _ _ _ _ _ h => h⟩
    · try simp only [cond]
      simp only [putR, Act.put, List.setIfInBounds_toArray, List.set_cons_zero, List.set_cons_succ]
      refine SOp.val (v := .bool d) (w' := W) (by kernel_rfl) (by go_simp; rw [HD.out]) ⟨hI, upd_self _ _ _, fun _ _ _ _ _ h => h⟩
  · refine Step.mk (oi := _) rfl [(17, 12), (20, 15)] (fun cs b h => by cases h) (by kernel_rfl) (fun vs W hI hA => ?_)
    simp only [List.map]
    have h12 : vs 12 = .bool ok := hA 12 (by decide)
    have h15 : vs 15 = cond ok (.bool d) undef := hA 15 (by decide)
    rw [h12, h15]
    cases ok
    · simp only [putR, Act.put, List.setIfInBounds_toArray, List.set_cons_zero, List.set_cons_succ]
      refine SOp.val (v := .bool false) (w' := W) (by kernel_rfl) (by go_simp) ⟨hI, upd_self _ _ _, fun _ _ _ _ _ h => h⟩
    · try simp only [cond]
      simp only [putR, Act.put, List.setIfInBounds_toArray, List.set_cons_zero, List.set_cons_succ]
      refine SOp.val (v := .bool d) (w' := W) (by kernel_rfl) (by go_simp) ⟨hI, upd_self _ _ _, fun _ _ _ _ _ h => h⟩
  · refine Step.mk (oi := _) rfl [(5, 0)] (fun cs b h => by cases h) (by kernel_rfl) (fun vs W hI hA => ?_)
    simp only [List.map]
    have h0 : vs 0 = pt p := hA 0 (by decide)
    rw [h0]
    simp only [putR, Act.put, List.setIfInBounds_toArray, List.set_cons_zero, List.set_cons_succ]
    refine SOp.val (v := pt p) (w' := W) (by kernel_rfl) (by go_simp) ⟨hI, upd_self _ _ _, fun _ _ _ _ _ h => h⟩
  · refine Step.mk (oi := _) rfl [(22, 17)] (fun cs b h => by cases h) (by kernel_rfl) (fun vs W hI hA => ?_)
    simp only [List.map]
    have h17 : vs 17 = pt p := hA 17 (by decide)
    rw [h17]
    simp only [putR, Act.put, List.setIfInBounds_toArray, List.set_cons_zero, List.set_cons_succ]
    refine SOp.val (v := pt p) (w' := W) (by kernel_rfl) (by go_simp) ⟨hI, upd_self _ _ _, fun _ _ _ _ _ h => h⟩
  · refine Step.mk (oi := _) rfl [(23, 18), (12, 7)] (fun cs b h => by cases h) (by kernel_rfl) (fun vs W hI hA => ?_)
    simp only [List.map]
    have h18 : vs 18 = pt p := hA 18 (by decide)
    have h7 : vs 7 = strL' L2 := hA 7 (by decide)
    rw [h18, h7]
    obtain ⟨hB, x, y, hT⟩ := hI
    have c0 := Two.c0 hT
    have c1 := Two.c1 hT
    have f0 := Two.fz hT 0
    have f1 := Two.fz hT 1
    simp only [putR, Act.put, List.setIfInBounds_toArray, List.set_cons_zero, List.set_cons_succ]
    refine SOp.done (w' := W.setCell ⟨p, 0, none⟩ (strL' L2)) (by kernel_rfl) (by go_simp) ⟨⟨hB.trans (But.setCell p W 0 _), _, _, hT.set0 _⟩, ⟨_, hT.set0 _⟩, ?_⟩
    intro j vs' a1 a2 a3 a4
    by_cases e : j = 22
    · subst e; obtain ⟨z, hz⟩ := a4; exact ⟨_, hz.set0 _⟩
    by_cases e2 : j = 24
    · subst e2; obtain ⟨z, hz⟩ := a4; exact ⟨_, hz.set0 _⟩
    exact ptxKeep [22, 24] (i := 19) (by decide) j vs' a1 a2 a3 (by simp [e, e2]) a4
  · refine Step.mk (oi := _) rfl [(6, 1)] (fun cs b h => by cases h) (by kernel_rfl) (fun vs W hI hA => ?_)
    simp only [List.map]
    have h1 : vs 1 = pt p := hA 1 (by decide)
    rw [h1]
    simp only [putR, Act.put, List.setIfInBounds_toArray, List.set_cons_zero, List.set_cons_succ]
    refine SOp.val (v := pt p) (w' := W) (by kernel_rfl) (by go_simp) ⟨hI, upd_self _ _ _, fun _ _ _ _ _ h => h⟩
  · refine Step.mk (oi := _) rfl [(24, 20)] (fun cs b h => by cases h) (by kernel_rfl) (fun vs W hI hA => ?_)
    simp only [List.map]
    have h20 : vs 20 = pt p := hA 20 (by decide)
    rw [h20]
    simp only [putR, Act.put, List.setIfInBounds_toArray, List.set_cons_zero, List.set_cons_succ]
    refine SOp.val (v := .pointer (some ⟨p, 1, none⟩)) (w' := W) (by kernel_rfl) (by go_simp) ⟨hI, upd_self _ _ _, fun _ _ _ _ _ h => h⟩
  · refine Step.mk (oi := _) rfl [(25, 21), (21, 16)] (fun cs b h => by cases h) (by kernel_rfl) (fun vs W hI hA => ?_)
    simp only [List.map]
    have h21 : vs 21 = .pointer (some ⟨p, 1, none⟩) := hA 21 (by decide)
    have h16 : vs 16 = .bool (ok && d) := hA 16 (by decide)
    rw [h21, h16]
    obtain ⟨hB, x, y, hT⟩ := hI
    have c0 := Two.c0 hT
    have c1 := Two.c1 hT
    have f0 := Two.fz hT 0
    have f1 := Two.fz hT 1
    simp only [putR, Act.put, List.setIfInBounds_toArray, List.set_cons_zero, List.set_cons_succ]
    refine SOp.done (w' := W.setCell ⟨p, 1, none⟩ (.bool (ok && d))) (by kernel_rfl) (by go_simp) ⟨⟨hB.trans (But.setCell p W 1 _), _, _, hT.set1 _⟩, ⟨_, hT.set1 _⟩, ?_⟩
    intro j vs' a1 a2 a3 a4
    by_cases e : j = 19
    · subst e; obtain ⟨z, hz⟩ := a4; exact ⟨_, hz.set1 _⟩
    by_cases e2 : j = 23
    · subst e2; obtain ⟨z, hz⟩ := a4; exact ⟨_, hz.set1 _⟩
    exact ptxKeep [19, 23] (i := 22) (by decide) j vs' a1 a2 a3 (by simp [e, e2]) a4
  · intro vs V hI hφ
    obtain ⟨y, h19⟩ := hφ 19 (fun k _ => by simp [ptxKill])
    obtain ⟨x, h22⟩ := hφ 22 (fun k _ => by simp [ptxKill])
    have hT := Two.join h19 h22
    clear hφ h19 h22
    simp only [putAll, Act.put, List.setIfInBounds_toArray, List.set_cons_zero, List.set_cons_succ]
    have HI := Lib.hid hI.1
    have HT := Lib.hid hT
    clear hI hT
    go_wp2
    go_ret
    exact ⟨rfl, HI.out, HT.out⟩
set_option maxHeartbeats 4000000 in
theorem pen_value (p : Nat) (l : List UInt8) (ok : Bool) (k : Nat) (n : Int) (t : ByteArray) (w : World) (h : Pn w p l ok) (hl : l.length ≤ 800000) (hk : k < 256) (h1 : -9223372036854775808 ≤ n) (h2 : n ≤ 9223372036854775807) (ht : t.size ≤ 140737488351232) :
    Calls Tryz.prog 43 #[pt p, Wr.val k n t] w fun e w' => e = .returned (pt p) ∧ But p w w' ∧ Pn w' p (l ++ valL k n t) (ok && may k n t) := by
  have TA := fun (w1 : World) => Wr.value_big ⟨l.toArray⟩ k n t w1 (by rw [mk_size]; exact hl) hk h1 h2 ht
  have HP := Lib.hid (Pn.two h)
  have hw := Two.lt (Pn.two h)
  clear h
  have main : ∀ (d : Bool) (L2 : List UInt8) (c : Int), (c == 0) = d → Hid (∀ w1 : World, Calls Tryz.prog 73 #[strL' l, Wr.val k n t] w1 fun e w' => e = .returned (.tuple #[strL' L2, .int .i64 c]) ∧ Below w1.heap.size w1 w') →
      Calls Tryz.prog 43 #[pt p, Wr.val k n t] w fun e w' => e = .returned (pt p) ∧ But p w w' ∧ Pn w' p L2 (ok && d) := by
    intro d L2 c e1 TA
    have hP1 : Two (w.alloc (.cells #[.int .u8 k, .int .i64 n, .string t] 51)).drew p 95 (strL' l) (.bool ok) := HP.out.keptB ((Below.refl w.heap.size w).alloc (Nat.le_refl _) _).drew hw
    have HP1 := Lib.hid hP1
    have k0 := Two.c0 hP1
    have hw1 := Two.lt hP1
    have hbx : Below w.heap.size w (w.alloc (.cells #[.int .u8 k, .int .i64 n, .string t] 51)).drew := ((Below.refl w.heap.size w).alloc (Nat.le_refl _) _).drew
    have HBX := Lib.hid hbx
    clear hP1 hbx
    cases ok <;>
    · go_enter Tryz.func43, Tryz.ntmps43
      go_wp2
      go_region_with (go_at_call 73; with_reducible refine (TA.out _).mono ?_; rintro e w1 ⟨rfl, hb1⟩; have hT1 := HP1.out.keptB hb1 hw1; have t0 := Two.c0 hT1; have t1 := Two.c1 hT1; have f0 := Two.fz hT1 0; have f1 := Two.fz hT1 1)
      all_goals
        go_wp2
        go_ret
        exact ⟨rfl, (((But.of_below (HBX.out.trans (hb1.mono HBX.out.size))).trans (But.setCell p w1 0 _)).trans (But.setCell p _ 1 _)), (hT1.set0 (strL' L2)).set1 _⟩
  cases hm : may k n t
  · have e0 : l ++ valL k n t = l := by unfold valL; rw [hm]; simp
    rw [e0]
    refine main false l 4 rfl (Lib.hid fun w1 => ?_)
    have := TA w1
    unfold Wr.valS Wr.valE at this
    rw [hm] at this
    exact this
  · have e0 : l ++ valL k n t = l ++ encV k n t := by unfold valL; rw [hm]; simp
    rw [e0]
    refine main true (l ++ encV k n t) 0 rfl (Lib.hid fun w1 => ?_)
    have := TA w1
    unfold Wr.valS Wr.valE at this
    rw [hm] at this
    simp only [if_true] at this
    rw [cat_mk] at this
    exact this
end Go.Proofs.YtjakdbahopbggaaGreatDoor
