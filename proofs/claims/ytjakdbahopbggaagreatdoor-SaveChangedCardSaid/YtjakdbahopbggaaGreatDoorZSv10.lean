/- What save.less returns: the entries that are not so in another list. Conditions: the other list rises. -/
import Derived.Test.YtjakdbahopbggaaGreatDoorZSv5
import Derived.Test.YtjakdbahopbggaaGreatDoorZSv3
import Derived.Deep.DeepAppendWide
namespace Go.Proofs.YtjakdbahopbggaaGreatDoor
open Go.RowKit Go.Ow Go.Wi Go.Inv2

theorem same_1 (k v v' : List UInt8) (w : World) : Calls Tryz.prog 28 #[.agg #[strL' k, strL' v], .agg #[strL' k, strL' v']] w fun e w' => e = .returned (.bool true) ∧ Below w.heap.size w w' := by
  have HB := Lib.hid (((Below.refl w.heap.size w).alloc (Nat.le_refl _) (.cells #[strL' k, strL' v] 42)).alloc (by simp) (.cells #[strL' k, strL' v'] 42))
  go_enter Tryz.func28, Tryz.ntmps28
  go_wp2
  go_ret
  exact ⟨rfl, HB.out⟩
theorem same_2 (k v v' : List UInt8) (w : World) : Calls Tryz.prog 29 #[.agg #[strL' k, strL' v], .agg #[strL' k, strL' v']] w fun e w' => e = .returned (.bool (decide (v = v'))) ∧ Below w.heap.size w w' := by
  have HB := Lib.hid (((Below.refl w.heap.size w).alloc (Nat.le_refl _) (.cells #[strL' k, strL' v] 42)).alloc (by simp) (.cells #[strL' k, strL' v'] 42))
  by_cases h : v = v'
  · subst h
    go_enter Tryz.func29, Tryz.ntmps29
    go_wp2
    go_ret
    exact ⟨by simp, HB.out⟩
  · have h2 : (v == v') = false := by simpa using h
    go_enter Tryz.func29, Tryz.ntmps29
    go_wp2
    go_ret
    exact ⟨by simp [h], HB.out⟩

/-- what each operation of the region leaves -/
def lesF (ix : Nat) (o : Option Addr) (n c fn : Nat) (p : Value) (b q : Bool) (k v v2 : List UInt8) : Nat → Value → List Value → World → Prop
  | 0, u, _, _ => u = .bool b
  | 1, u, _, _ => u = .bool (!b)
  | 2, u, _, _ => u = .bool (!b)
  | 3, u, _, _ => u = cond b (.func (.func fn) #[] #[]) undef
  | 4, u, _, _ => u = cond b (.agg #[strL' k, strL' v]) undef
  | 5, u, _, _ => u = cond b (.slice o n c) undef
  | 6, u, _, _ => u = cond b (.int .i64 ix) undef
  | 7, u, _, _ => u = cond b (p) undef
  | 8, u, _, _ => u = cond b (.agg #[strL' k, strL' v2]) undef
  | 9, u, _, _ => u = cond b (.bool q) undef
  | 10, u, _, _ => u = cond b (.bool (!q)) undef
  | 11, u, _, _ => u = .bool (!b || !q)
  | _, _, _, _ => True
def lesAnc (i : Nat) : List Nat := ([[], [0], [0, 1], [0, 1, 2], [0, 1, 2], [0, 1, 2], [0, 1, 2], [0, 1, 2, 5, 6], [0, 1, 2, 5, 6, 7], [0, 1, 2, 3, 4, 5, 6, 7, 8], [0, 1, 2, 3, 4, 5, 6, 7, 8, 9], [0, 1, 2, 3, 4, 5, 6, 7, 8, 9, 10]] : List (List Nat)).getD i []
def lesNeed (i : Nat) : List Nat := ([[], [0], [1], [2], [2], [2], [2], [5, 6, 2], [7, 2], [3, 4, 8, 2], [9, 2], [2, 10]] : List (List Nat)).getD i []
def lesDep (i : Nat) : List Nat := ([[], [], [], [], [], [], [], [], [], [], [], []] : List (List Nat)).getD i []
def lesKill (_ _ : Nat) : Bool := false
def lesPure (j : Nat) : Bool := !([].contains j)
theorem lesF_pure {j : Nat} {u : Value} {ds : List Value} {w w' : World} {ix : Nat} {o : Option Addr} {n c fn : Nat} {p : Value} {b q : Bool} {k v v2 : List UInt8} (hp : lesPure j = true) (h : lesF ix o n c fn p b q k v v2 j u ds w) : lesF ix o n c fn p b q k v v2 j u ds w' := by
  match j with
  | 0 => exact h
  | 1 => exact h
  | 2 => exact h
  | 3 => exact h
  | 4 => exact h
  | 5 => exact h
  | 6 => exact h
  | 7 => exact h
  | 8 => exact h
  | 9 => exact h
  | 10 => exact h
  | 11 => exact h
  | _ + 12 => trivial
theorem lesF_mono {j : Nat} {u : Value} {ds : List Value} {w w' : World} {ix : Nat} {o : Option Addr} {n c fn : Nat} {p : Value} {b q : Bool} {k v v2 : List UInt8} (_hb : Below w.heap.size w w') (h : lesF ix o n c fn p b q k v v2 j u ds w) : lesF ix o n c fn p b q k v v2 j u ds w' := by
  match j with
  | 0 => exact h
  | 1 => exact h
  | 2 => exact h
  | 3 => exact h
  | 4 => exact h
  | 5 => exact h
  | 6 => exact h
  | 7 => exact h
  | 8 => exact h
  | 9 => exact h
  | 10 => exact h
  | 11 => exact h
  | _ + 12 => trivial
theorem lesKeep (x : List Nat) {i : Nat} (h : ((List.range 12).all fun j => lesPure j || j == i || lesKill i j || (lesAnc j).contains i || x.contains j) = true) {w w' : World} {ix : Nat} {o : Option Addr} {n c fn : Nat} {p : Value} {b q : Bool} {k v v2 : List UInt8} : ∀ j (vs' : Nat → Value), j ≠ i → lesKill i j = false → (lesAnc j).contains i = false → (x.contains j = false) →
    asrt (lesF ix o n c fn p b q k v v2) lesDep j vs' w → asrt (lesF ix o n c fn p b q k v v2) lesDep j vs' w' := by
  intro j vs' h1 h2 h3 h0 h4
  by_cases hj : j < 12
  · have := List.all_eq_true.1 h j (List.mem_range.2 hj)
    rw [h2, h3, h0] at this
    simp only [Bool.or_false, Bool.or_eq_true, beq_iff_eq] at this
    rcases this with h5 | h5
    · exact lesF_pure h5 h4
    · exact absurd h5 h1
  · exact lesF_pure (by unfold lesPure; simp) h4
theorem lesAnc_out {j : Nat} (h : 12 ≤ j) : lesAnc j = [] := by
  unfold lesAnc
  rw [List.getD_eq_getElem?_getD, List.getElem?_eq_none (by simpa using h)]
  rfl
theorem lesDep_out {j : Nat} (h : 12 ≤ j) : lesDep j = [] := by
  unfold lesDep
  rw [List.getD_eq_getElem?_getD, List.getElem?_eq_none (by simpa using h)]
  rfl
theorem lesDep_anc : ∀ j, ∀ d ∈ lesDep j, d ∈ lesAnc j := by
  intro j d hd
  by_cases h : j < 12
  · exact (by decide : ∀ j, j < 12 → ∀ d ∈ lesDep j, d ∈ lesAnc j) j h d hd
  · rw [lesDep_out (by omega)] at hd
    cases hd
set_option maxRecDepth 100000 in
set_option maxHeartbeats 8000000 in
theorem less_gone (o1 o2 : Option Addr) (c1 c2 : Nat) (l m : List En) (w : World) (h1 : EnA w o1 l) (h2 : EnA w o2 m) (hr : Rise m) (hl : l.length ≤ 10000) (hm : m.length ≤ 10000) :
    Calls Tryz.prog 27 #[.slice o1 l.length c1, .slice o2 m.length c2, .func (.func 28) #[] #[]] w fun e w' => ∃ u, e = .returned u ∧ EnO w' w.heap.size u (goneL l m) ∧ Below w.heap.size w w' := by
  have H1 := Lib.hid h1
  have H2 := Lib.hid h2
  have HR := Lib.hid hr
  clear h1 h2 hr
  obtain ⟨i0, hi, hz0, hz1, hz2⟩ := info_parts info_entry
  go_enter Tryz.func27, Tryz.ntmps27
  go_wp2
  go_loopg [7, 14] l.length (fun g V N wr => ∃ j : Nat, j + g = l.length ∧ N = .int .i64 j ∧ Hid (EnO wr w.heap.size V (goneL (l.take j) m)) ∧ Hid (Below w.heap.size w wr))
  case atStart => exact ⟨0, by omega, rfl, Lib.hid ⟨rfl, .inl ⟨rfl, rfl⟩⟩, Lib.hid (Below.refl _ _)⟩
  case round =>
    obtain ⟨j, hj, rfl, HO, HB⟩ := hrel
    by_cases hlt : j < l.length
    · obtain ⟨x, hx⟩ : ∃ x, l[j]? = some x := ⟨_, List.getElem?_eq_getElem hlt⟩
      obtain ⟨b, off, rfl, hb, c0, c1'⟩ := (H1.out.below HB.out) j x hx
      have i1 : (j : Int) < (l.length : Int) := by omega
      have i2 : (0 : Int) ≤ (j : Int) := by omega
      have htk : l.take (j + 1) = l.take j ++ [x] := by rw [List.take_add_one, hx]; rfl
      have HTK := Lib.hid htk
      have hsz := HB.out.size
      have hb2 : Below w.heap.size w (wr.alloc (.cells #[strL' x.k, strL' x.v] 42)) := HB.out.alloc hsz _
      have HB2 := Lib.hid hb2
      have hbx : Below wr.heap.size wr (wr.alloc (.cells #[strL' x.k, strL' x.v] 42)) := (Below.refl _ _).alloc (Nat.le_refl _) _
      have BS := Lib.hid (bs_less1 o2 c2 m x.k (wr.alloc (.cells #[strL' x.k, strL' x.v] 42)) (H2.out.below hb2) HR.out (by omega))
      have hbox := heap_alloc_new wr (.cells #[strL' x.k, strL' x.v] 42)
      have HBOX := Lib.hid hbox
      have ho2 := HO.out.below hbx
      have HO2 := Lib.hid ho2
      have HLB := Lib.hid (HR.out.lb x.k)
      obtain ⟨p, hp⟩ : ∃ p, lbN m x.k = p := ⟨_, rfl⟩
      obtain ⟨q, hq⟩ : ∃ q, hasK m x.k = q := ⟨_, rfl⟩
      rw [hp, hq] at BS HLB
      have HQ := Lib.hid hq
      have HP := Lib.hid hp
      clear hx htk hb2 hbx hbox ho2 hp hq
      go_upto_region 6 with (go_at_call 45; with_reducible refine BS.out.mono ?_; rintro e w2 ⟨rfl, hb3⟩)
      have hb4 := HB2.out.trans (hb3.mono HB2.out.size)
      have HB4 := Lib.hid hb4
      have hlt4 : wr.heap.size < (wr.alloc (.cells #[strL' x.k, strL' x.v] 42)).heap.size := by simp
      have HO4 := Lib.hid (HO2.out.below hb3)
      have hbox4 : w2.heap[wr.heap.size]? = some (.cells #[strL' x.k, strL' x.v] 42 (0, 0)) := (hb3.block _ hlt4).trans HBOX.out
      have HBX4 := Lib.hid hbox4
      have HLT4 : Hid (wr.heap.size < w2.heap.size) := Lib.hid (Nat.lt_of_lt_of_le hlt4 hb3.size)
      -- the other one's entry, and what the two come to
      obtain ⟨r, y, P0, HYY⟩ : ∃ (r : Bool) (y : List UInt8) (P0 : Value), Hid ((q = true → p < m.length ∧ getV m x.k = some y ∧ (∃ b2 off2, o2 = some ⟨b2, off2, none⟩ ∧ P0 = .pointer (some ⟨b2, off2 + p * 2, none⟩) ∧ b2 < w.heap.size) ∧ ∀ W, Below w.heap.size w W → ∃ b2 off2, o2 = some ⟨b2, off2, none⟩ ∧ W.cell? ⟨b2, off2 + p * 2, none⟩ = some (strL' x.k) ∧ W.cell? ⟨b2, off2 + p * 2 + 1, none⟩ = some (strL' y)) ∧ r = true ∧ (!q || !r) = decide (getV m x.k = none)) := by
        cases q with
        | false =>
          have hn : getV m x.k = none := by
            have := HQ.out
            unfold hasK at this
            cases h : getV m x.k with
            | none => rfl
            | some v => rw [h] at this; cases this
          refine ⟨_, x.v, undef, Lib.hid ⟨fun h => (by cases h), rfl, ?_⟩⟩
          rw [hn]
          simp
        | true =>
          obtain ⟨hpl, hpk⟩ := HLB.out.2.2.2.1 rfl
          obtain ⟨y, hy⟩ := hasK_iff.1 HQ.out
          have hmem := getV_of_mem HR.out (List.getElem_mem hpl)
          rw [hpk, hy] at hmem
          have hye : m[p]'hpl = ⟨x.k, y⟩ := by
            have e1 : (m[p]'hpl).v = y := by simpa using hmem.symm
            have e2 := hpk
            generalize m[p]'hpl = e at e1 e2
            cases e
            simp only at e1 e2
            rw [e1, e2]
          have hg : m[p]? = some ⟨x.k, y⟩ := by rw [List.getElem?_eq_getElem hpl, hye]
          obtain ⟨b2, off2, hoo, hbb, _, _⟩ := H2.out p _ hg
          refine ⟨_, y, .pointer (some ⟨b2, off2 + p * 2, none⟩), Lib.hid ⟨fun _ => ⟨hpl, hy, ⟨b2, off2, hoo, rfl, hbb⟩, fun W hW => ?_⟩, rfl, ?_⟩⟩
          · obtain ⟨b3, off3, h3, _, h4, h5⟩ := (H2.out.below hW) p _ hg
            exact ⟨b3, off3, h3, h4, h5⟩
          · rw [hy]
            simp
      clear hb3 hb4 hlt4 hbox4
      refine wp_region_asrt (by kernel_rfl) (Below w2.heap.size w2) (lesF p o2 m.length c2 28 P0 q r x.k x.v y) lesDep lesNeed lesAnc lesKill 12 [some 25, some 26, some 27, some 28, some 29, some 30, some 31, some 32, some 33, some 34, some 35, some 36] rfl rfl (by kernel_rfl) lesDep_anc (Below.refl _ _).drew (fun j h => lesAnc_out h) (fun j h => by
          match j, h with
          | _ + 12, _ => trivial) (fun j h => lesDep_out h) ⟨?_, ?_, ?_, ?_, ?_, ?_, ?_, ?_, ?_, ?_, ?_, ?_, trivial⟩ ?_
      · refine Step.mk (oi := _) rfl [] (fun cs b h => by cases h) (by kernel_rfl) (fun vs W hI hA => ?_)
        simp only [List.map]
        simp only [putR]
        refine SOp.val (v := .bool q) (w' := W) (by kernel_rfl) (by go_simp) ⟨hI, upd_self _ _ _, fun _ _ _ _ _ h => h⟩
      · refine Step.mk (oi := _) rfl [(25, 0)] (fun cs b h => by cases h) (by kernel_rfl) (fun vs W hI hA => ?_)
        simp only [List.map]
        have h0 : vs 0 = .bool q := hA 0 (by decide)
        rw [h0]
        simp only [putR, Act.put, List.setIfInBounds_toArray, List.set_cons_zero, List.set_cons_succ]
        refine SOp.val (v := .bool (!q)) (w' := W) (by kernel_rfl) (by go_simp) ⟨hI, upd_self _ _ _, fun _ _ _ _ _ h => h⟩
      · refine Step.mk (oi := _) rfl [(26, 1)] (fun cs b h => by cases h) (by kernel_rfl) (fun vs W hI hA => ?_)
        simp only [List.map]
        have h1 : vs 1 = .bool (!q) := hA 1 (by decide)
        rw [h1]
        simp only [putR, Act.put, List.setIfInBounds_toArray, List.set_cons_zero, List.set_cons_succ]
        refine SOp.val (v := .bool (!q)) (w' := W) (by kernel_rfl) (by go_simp) ⟨hI, upd_self _ _ _, fun _ _ _ _ _ h => h⟩
      · refine Step.mk (oi := _) rfl [(27, 2)] (fun cs b h => by cases h) (by kernel_rfl) (fun vs W hI hA => ?_)
        simp only [List.map]
        have h2 : vs 2 = .bool (!q) := hA 2 (by decide)
        rw [h2]
        cases q
        · simp only [putR, Act.put, List.setIfInBounds_toArray, List.set_cons_zero, List.set_cons_succ]
          exact SOp.skipped (by kernel_rfl) ⟨hI, upd_self _ _ _, fun _ _ _ _ _ h => h⟩
        · try simp only [cond]
          simp only [putR, Act.put, List.setIfInBounds_toArray, List.set_cons_zero, List.set_cons_succ]
          refine SOp.val (v := .func (.func 28) #[] #[]) (w' := W) (by kernel_rfl) (by go_simp) ⟨hI, upd_self _ _ _, fun _ _ _ _ _ h => h⟩
      · refine Step.mk (oi := _) rfl [(27, 2)] (fun cs b h => by cases h) (by kernel_rfl) (fun vs W hI hA => ?_)
        simp only [List.map]
        have h2 : vs 2 = .bool (!q) := hA 2 (by decide)
        rw [h2]
        have hbx : W.heap[wr.heap.size]? = some (.cells #[strL' x.k, strL' x.v] 42 (0, 0)) := (hI.block _ HLT4.out).trans HBX4.out
        have k0 := cell_in hbx 0
        have k1 := cell_in hbx 1
        simp at k0 k1
        cases q
        · simp only [putR, Act.put, List.setIfInBounds_toArray, List.set_cons_zero, List.set_cons_succ]
          exact SOp.skipped (by kernel_rfl) ⟨hI, upd_self _ _ _, fun _ _ _ _ _ h => h⟩
        · try simp only [cond]
          simp only [putR, Act.put, List.setIfInBounds_toArray, List.set_cons_zero, List.set_cons_succ]
          refine SOp.val (v := .agg #[strL' x.k, strL' x.v]) (w' := W) (by kernel_rfl) (by go_simp) ⟨hI, upd_self _ _ _, fun _ _ _ _ _ h => h⟩
      · refine Step.mk (oi := _) rfl [(27, 2)] (fun cs b h => by cases h) (by kernel_rfl) (fun vs W hI hA => ?_)
        simp only [List.map]
        have h2 : vs 2 = .bool (!q) := hA 2 (by decide)
        rw [h2]
        cases q
        · simp only [putR, Act.put, List.setIfInBounds_toArray, List.set_cons_zero, List.set_cons_succ]
          exact SOp.skipped (by kernel_rfl) ⟨hI, upd_self _ _ _, fun _ _ _ _ _ h => h⟩
        · try simp only [cond]
          simp only [putR, Act.put, List.setIfInBounds_toArray, List.set_cons_zero, List.set_cons_succ]
          refine SOp.val (v := .slice o2 m.length c2) (w' := W) (by kernel_rfl) (by go_simp) ⟨hI, upd_self _ _ _, fun _ _ _ _ _ h => h⟩
      · refine Step.mk (oi := _) rfl [(27, 2)] (fun cs b h => by cases h) (by kernel_rfl) (fun vs W hI hA => ?_)
        simp only [List.map]
        have h2 : vs 2 = .bool (!q) := hA 2 (by decide)
        rw [h2]
        cases q
        · simp only [putR, Act.put, List.setIfInBounds_toArray, List.set_cons_zero, List.set_cons_succ]
          exact SOp.skipped (by kernel_rfl) ⟨hI, upd_self _ _ _, fun _ _ _ _ _ h => h⟩
        · try simp only [cond]
          simp only [putR, Act.put, List.setIfInBounds_toArray, List.set_cons_zero, List.set_cons_succ]
          refine SOp.val (v := .int .i64 p) (w' := W) (by kernel_rfl) (by go_simp) ⟨hI, upd_self _ _ _, fun _ _ _ _ _ h => h⟩
      · refine Step.mk (oi := _) rfl [(30, 5), (31, 6), (27, 2)] (fun cs b h => by cases h) (by kernel_rfl) (fun vs W hI hA => ?_)
        simp only [List.map]
        have h5 : vs 5 = cond q (.slice o2 m.length c2) undef := hA 5 (by decide)
        have h6 : vs 6 = cond q (.int .i64 p) undef := hA 6 (by decide)
        have h2 : vs 2 = .bool (!q) := hA 2 (by decide)
        rw [h5, h6, h2]
        cases q
        · simp only [putR, Act.put, List.setIfInBounds_toArray, List.set_cons_zero, List.set_cons_succ]
          exact SOp.skipped (by kernel_rfl) ⟨hI, upd_self _ _ _, fun _ _ _ _ _ h => h⟩
        · obtain ⟨hpl, hgv, ⟨b2, off2, ho2, hP0, hb2⟩, hce⟩ := HYY.out.1 rfl
          subst ho2 hP0
          have j1 : (p : Int) < (m.length : Int) := by omega
          have j2 : (0 : Int) ≤ (p : Int) := by omega
          try simp only [cond]
          simp only [putR, Act.put, List.setIfInBounds_toArray, List.set_cons_zero, List.set_cons_succ]
          refine SOp.val (v := .pointer (some ⟨b2, off2 + p * 2, none⟩)) (w' := W) (by kernel_rfl) (by go_simp) ⟨hI, upd_self _ _ _, fun _ _ _ _ _ h => h⟩
      · refine Step.mk (oi := _) rfl [(32, 7), (27, 2)] (fun cs b h => by cases h) (by kernel_rfl) (fun vs W hI hA => ?_)
        simp only [List.map]
        have h7 : vs 7 = cond q (P0) undef := hA 7 (by decide)
        have h2 : vs 2 = .bool (!q) := hA 2 (by decide)
        rw [h7, h2]
        cases q
        · simp only [putR, Act.put, List.setIfInBounds_toArray, List.set_cons_zero, List.set_cons_succ]
          exact SOp.skipped (by kernel_rfl) ⟨hI, upd_self _ _ _, fun _ _ _ _ _ h => h⟩
        · obtain ⟨hpl, hgv, ⟨b2, off2, ho2, hP0, hb2⟩, hce⟩ := HYY.out.1 rfl
          obtain ⟨b3, off3, h3, d0, d1⟩ := hce W (HB4.out.trans (hI.mono HB4.out.size))
          subst ho2 hP0
          simp only [Option.some.injEq, Addr.mk.injEq, and_true] at h3
          obtain ⟨h3, h4⟩ := h3
          subst h3 h4
          try simp only [cond]
          simp only [putR, Act.put, List.setIfInBounds_toArray, List.set_cons_zero, List.set_cons_succ]
          refine SOp.val (v := .agg #[strL' x.k, strL' y]) (w' := W) (by kernel_rfl) (by go_simp) ⟨hI, upd_self _ _ _, fun _ _ _ _ _ h => h⟩
      · refine Step.mk (oi := _) rfl [(28, 3), (29, 4), (33, 8), (27, 2)] (fun cs b h => by cases h) (by kernel_rfl) (fun vs W hI hA => ?_)
        simp only [List.map]
        have h3 : vs 3 = cond q (.func (.func 28) #[] #[]) undef := hA 3 (by decide)
        have h4 : vs 4 = cond q (.agg #[strL' x.k, strL' x.v]) undef := hA 4 (by decide)
        have h8 : vs 8 = cond q (.agg #[strL' x.k, strL' y]) undef := hA 8 (by decide)
        have h2 : vs 2 = .bool (!q) := hA 2 (by decide)
        rw [h3, h4, h8, h2]
        cases q
        · simp only [putR, Act.put, List.setIfInBounds_toArray, List.set_cons_zero, List.set_cons_succ]
          exact SOp.skipped (by kernel_rfl) ⟨hI, upd_self _ _ _, fun _ _ _ _ _ h => h⟩
        · have hr := HYY.out.2.1
          try simp only [cond]
          simp only [putR, Act.put, List.setIfInBounds_toArray, List.set_cons_zero, List.set_cons_succ]
          refine SOp.enter (f := 28) (args := #[.agg #[strL' x.k, strL' x.v], .agg #[strL' x.k, strL' y]]) (by kernel_rfl) (by go_simp) ((same_1 x.k x.v y W).mono ?_)
          rintro e w3 ⟨rfl, hb⟩
          exact ⟨.bool r, by rw [hr], hI.trans (hb.mono hI.size), upd_self _ _ _, fun _ _ _ _ _ h => lesF_mono hb h⟩
      · refine Step.mk (oi := _) rfl [(34, 9), (27, 2)] (fun cs b h => by cases h) (by kernel_rfl) (fun vs W hI hA => ?_)
        simp only [List.map]
        have h9 : vs 9 = cond q (.bool r) undef := hA 9 (by decide)
        have h2 : vs 2 = .bool (!q) := hA 2 (by decide)
        rw [h9, h2]
        cases q
        · simp only [putR, Act.put, List.setIfInBounds_toArray, List.set_cons_zero, List.set_cons_succ]
          exact SOp.skipped (by kernel_rfl) ⟨hI, upd_self _ _ _, fun _ _ _ _ _ h => h⟩
        · try simp only [cond]
          simp only [putR, Act.put, List.setIfInBounds_toArray, List.set_cons_zero, List.set_cons_succ]
          refine SOp.val (v := .bool (!r)) (w' := W) (by kernel_rfl) (by go_simp) ⟨hI, upd_self _ _ _, fun _ _ _ _ _ h => h⟩
      · refine Step.mk (oi := _) rfl [(27, 2), (35, 10)] (fun cs b h => by cases h) (by kernel_rfl) (fun vs W hI hA => ?_)
        simp only [List.map]
        have h2 : vs 2 = .bool (!q) := hA 2 (by decide)
        have h10 : vs 10 = cond q (.bool (!r)) undef := hA 10 (by decide)
        rw [h2, h10]
        cases q
        · try simp only [cond]
          simp only [putR, Act.put, List.setIfInBounds_toArray, List.set_cons_zero, List.set_cons_succ]
          refine SOp.val (v := .bool true) (w' := W) (by kernel_rfl) (by go_simp) ⟨hI, upd_self _ _ _, fun _ _ _ _ _ h => h⟩
        · try simp only [cond]
          simp only [putR, Act.put, List.setIfInBounds_toArray, List.set_cons_zero, List.set_cons_succ]
          refine SOp.val (v := .bool (!r)) (w' := W) (by kernel_rfl) (by go_simp) ⟨hI, upd_self _ _ _, fun _ _ _ _ _ h => h⟩
      · intro vs V hI hφ
        have q11 : vs 11 = .bool (!q || !r) := hφ 11 (fun k _ => by rfl)
        clear hφ
        simp only [putAll, Act.put, List.setIfInBounds_toArray, List.set_cons_zero, List.set_cons_succ]
        rw [q11]
        clear q11
        have HB5 : Hid (Below w.heap.size w V) := Lib.hid (HB4.out.trans (hI.mono HB4.out.size))
        have HO5 := Lib.hid (HO4.out.below hI)
        have hbx : V.heap[wr.heap.size]? = some (.cells #[strL' x.k, strL' x.v] 42 (0, 0)) := (hI.block _ HLT4.out).trans HBX4.out
        have k0 := cell_in hbx 0
        have k1 := cell_in hbx 1
        simp at k0 k1
        clear hI hbx
        have hsp := HYY.out.2.2
        cases hd : (!q || !r)
        · rw [hd] at hsp
          have HF : Hid (goneL (l.take (j + 1)) m = goneL (l.take j) m) := Lib.hid (by rw [HTK.out]; unfold goneL; rw [List.filter_append, List.filter_cons, ← hsp]; simp)
          clear hsp hd
          go_wp2
          go_roundg (l.length - (j + 1))
          case measure => omega
          case rel => exact ⟨j + 1, by omega, by go_num, Lib.hid (by rw [HF.out]; exact HO5.out), HB5⟩
        · rw [hd] at hsp
          have HF : Hid (goneL (l.take (j + 1)) m = goneL (l.take j) m ++ [x]) := Lib.hid (by rw [HTK.out]; unfold goneL; rw [List.filter_append, List.filter_cons, ← hsp]; simp)
          clear hsp hd
          have hlen : (goneL (l.take j) m).length ≤ 100000 := by unfold goneL; have := List.length_filter_le (p := fun e : En => decide (getV m e.k = none)) (l := l.take j); rw [List.length_take] at this; omega
          have hb5 := HB5.out.size
          go_wp2_with (at_builtin; refine wpList_appown _ rfl (.tmp 37) (.tmp 39) 30 rfl i0 _ 2 32 Tryz.underlying30 hi hz0 hz1 hz2 rfl (by decide) rfl (ownC_al HO5.out _) V.heap.size 1 #[strL' x.k, strL' x.v] 42 rfl (heap_alloc_new _ _) rfl ?d1 hlen (by decide) ?d2 ?_)
          case d1 => exact ⟨rfl, rfl⟩
          case d2 => simp; omega
          intro v' w4 ho4 hg4
          have HO6 : Hid (EnO w4 w.heap.size v' (goneL (l.take (j + 1)) m)) := Lib.hid (by rw [HF.out]; unfold EnO; rw [List.length_append, List.flatMap_append]; exact ho4)
          have HB6 : Hid (Below w.heap.size w w4) := Lib.hid ((HB5.out.alloc hb5 _).grown hg4 (by simp; omega) (fun g hg => (ownC_blk HO5.out g hg).1))
          clear ho4 hg4
          go_wp2
          go_roundg (l.length - (j + 1))
          case measure => omega
          case rel => exact ⟨j + 1, by omega, by go_num, HO6, HB6⟩
    · obtain rfl : j = l.length := by omega
      have ho : EnO wr w.heap.size u7 (goneL l m) := by have := HO.out; rwa [List.take_length] at this
      have HO' := Lib.hid ho
      clear ho
      go_wp2
      go_ret
      exact ⟨_, rfl, HO'.out, HB.out⟩
set_option maxRecDepth 100000 in
set_option maxHeartbeats 8000000 in
theorem less_new (o1 o2 : Option Addr) (c1 c2 : Nat) (l m : List En) (w : World) (h1 : EnA w o1 l) (h2 : EnA w o2 m) (hr : Rise m) (hl : l.length ≤ 10000) (hm : m.length ≤ 10000) :
    Calls Tryz.prog 27 #[.slice o1 l.length c1, .slice o2 m.length c2, .func (.func 29) #[] #[]] w fun e w' => ∃ u, e = .returned u ∧ EnO w' w.heap.size u (newL l m) ∧ Below w.heap.size w w' := by
  have H1 := Lib.hid h1
  have H2 := Lib.hid h2
  have HR := Lib.hid hr
  clear h1 h2 hr
  obtain ⟨i0, hi, hz0, hz1, hz2⟩ := info_parts info_entry
  go_enter Tryz.func27, Tryz.ntmps27
  go_wp2
  go_loopg [7, 14] l.length (fun g V N wr => ∃ j : Nat, j + g = l.length ∧ N = .int .i64 j ∧ Hid (EnO wr w.heap.size V (newL (l.take j) m)) ∧ Hid (Below w.heap.size w wr))
  case atStart => exact ⟨0, by omega, rfl, Lib.hid ⟨rfl, .inl ⟨rfl, rfl⟩⟩, Lib.hid (Below.refl _ _)⟩
  case round =>
    obtain ⟨j, hj, rfl, HO, HB⟩ := hrel
    by_cases hlt : j < l.length
    · obtain ⟨x, hx⟩ : ∃ x, l[j]? = some x := ⟨_, List.getElem?_eq_getElem hlt⟩
      obtain ⟨b, off, rfl, hb, c0, c1'⟩ := (H1.out.below HB.out) j x hx
      have i1 : (j : Int) < (l.length : Int) := by omega
      have i2 : (0 : Int) ≤ (j : Int) := by omega
      have htk : l.take (j + 1) = l.take j ++ [x] := by rw [List.take_add_one, hx]; rfl
      have HTK := Lib.hid htk
      have hsz := HB.out.size
      have hb2 : Below w.heap.size w (wr.alloc (.cells #[strL' x.k, strL' x.v] 42)) := HB.out.alloc hsz _
      have HB2 := Lib.hid hb2
      have hbx : Below wr.heap.size wr (wr.alloc (.cells #[strL' x.k, strL' x.v] 42)) := (Below.refl _ _).alloc (Nat.le_refl _) _
      have BS := Lib.hid (bs_less1 o2 c2 m x.k (wr.alloc (.cells #[strL' x.k, strL' x.v] 42)) (H2.out.below hb2) HR.out (by omega))
      have hbox := heap_alloc_new wr (.cells #[strL' x.k, strL' x.v] 42)
      have HBOX := Lib.hid hbox
      have ho2 := HO.out.below hbx
      have HO2 := Lib.hid ho2
      have HLB := Lib.hid (HR.out.lb x.k)
      obtain ⟨p, hp⟩ : ∃ p, lbN m x.k = p := ⟨_, rfl⟩
      obtain ⟨q, hq⟩ : ∃ q, hasK m x.k = q := ⟨_, rfl⟩
      rw [hp, hq] at BS HLB
      have HQ := Lib.hid hq
      have HP := Lib.hid hp
      clear hx htk hb2 hbx hbox ho2 hp hq
      go_upto_region 6 with (go_at_call 45; with_reducible refine BS.out.mono ?_; rintro e w2 ⟨rfl, hb3⟩)
      have hb4 := HB2.out.trans (hb3.mono HB2.out.size)
      have HB4 := Lib.hid hb4
      have hlt4 : wr.heap.size < (wr.alloc (.cells #[strL' x.k, strL' x.v] 42)).heap.size := by simp
      have HO4 := Lib.hid (HO2.out.below hb3)
      have hbox4 : w2.heap[wr.heap.size]? = some (.cells #[strL' x.k, strL' x.v] 42 (0, 0)) := (hb3.block _ hlt4).trans HBOX.out
      have HBX4 := Lib.hid hbox4
      have HLT4 : Hid (wr.heap.size < w2.heap.size) := Lib.hid (Nat.lt_of_lt_of_le hlt4 hb3.size)
      -- the other one's entry, and what the two come to
      obtain ⟨r, y, P0, HYY⟩ : ∃ (r : Bool) (y : List UInt8) (P0 : Value), Hid ((q = true → p < m.length ∧ getV m x.k = some y ∧ (∃ b2 off2, o2 = some ⟨b2, off2, none⟩ ∧ P0 = .pointer (some ⟨b2, off2 + p * 2, none⟩) ∧ b2 < w.heap.size) ∧ ∀ W, Below w.heap.size w W → ∃ b2 off2, o2 = some ⟨b2, off2, none⟩ ∧ W.cell? ⟨b2, off2 + p * 2, none⟩ = some (strL' x.k) ∧ W.cell? ⟨b2, off2 + p * 2 + 1, none⟩ = some (strL' y)) ∧ r = decide (x.v = y) ∧ (!q || !r) = decide (getV m x.k ≠ some x.v)) := by
        cases q with
        | false =>
          have hn : getV m x.k = none := by
            have := HQ.out
            unfold hasK at this
            cases h : getV m x.k with
            | none => rfl
            | some v => rw [h] at this; cases this
          refine ⟨_, x.v, undef, Lib.hid ⟨fun h => (by cases h), rfl, ?_⟩⟩
          rw [hn]
          simp
        | true =>
          obtain ⟨hpl, hpk⟩ := HLB.out.2.2.2.1 rfl
          obtain ⟨y, hy⟩ := hasK_iff.1 HQ.out
          have hmem := getV_of_mem HR.out (List.getElem_mem hpl)
          rw [hpk, hy] at hmem
          have hye : m[p]'hpl = ⟨x.k, y⟩ := by
            have e1 : (m[p]'hpl).v = y := by simpa using hmem.symm
            have e2 := hpk
            generalize m[p]'hpl = e at e1 e2
            cases e
            simp only at e1 e2
            rw [e1, e2]
          have hg : m[p]? = some ⟨x.k, y⟩ := by rw [List.getElem?_eq_getElem hpl, hye]
          obtain ⟨b2, off2, hoo, hbb, _, _⟩ := H2.out p _ hg
          refine ⟨_, y, .pointer (some ⟨b2, off2 + p * 2, none⟩), Lib.hid ⟨fun _ => ⟨hpl, hy, ⟨b2, off2, hoo, rfl, hbb⟩, fun W hW => ?_⟩, rfl, ?_⟩⟩
          · obtain ⟨b3, off3, h3, _, h4, h5⟩ := (H2.out.below hW) p _ hg
            exact ⟨b3, off3, h3, h4, h5⟩
          · rw [hy]
            by_cases h : x.v = y
            · subst h; simp
            · have h1 : ¬ y = x.v := fun e => h e.symm
              simp [h, h1]
      clear hb3 hb4 hlt4 hbox4
      refine wp_region_asrt (by kernel_rfl) (Below w2.heap.size w2) (lesF p o2 m.length c2 29 P0 q r x.k x.v y) lesDep lesNeed lesAnc lesKill 12 [some 25, some 26, some 27, some 28, some 29, some 30, some 31, some 32, some 33, some 34, some 35, some 36] rfl rfl (by kernel_rfl) lesDep_anc (Below.refl _ _).drew (fun j h => lesAnc_out h) (fun j h => by
          match j, h with
          | _ + 12, _ => trivial) (fun j h => lesDep_out h) ⟨?_, ?_, ?_, ?_, ?_, ?_, ?_, ?_, ?_, ?_, ?_, ?_, trivial⟩ ?_
      · refine Step.mk (oi := _) rfl [] (fun cs b h => by cases h) (by kernel_rfl) (fun vs W hI hA => ?_)
        simp only [List.map]
        simp only [putR]
        refine SOp.val (v := .bool q) (w' := W) (by kernel_rfl) (by go_simp) ⟨hI, upd_self _ _ _, fun _ _ _ _ _ h => h⟩
      · refine Step.mk (oi := _) rfl [(25, 0)] (fun cs b h => by cases h) (by kernel_rfl) (fun vs W hI hA => ?_)
        simp only [List.map]
        have h0 : vs 0 = .bool q := hA 0 (by decide)
        rw [h0]
        simp only [putR, Act.put, List.setIfInBounds_toArray, List.set_cons_zero, List.set_cons_succ]
        refine SOp.val (v := .bool (!q)) (w' := W) (by kernel_rfl) (by go_simp) ⟨hI, upd_self _ _ _, fun _ _ _ _ _ h => h⟩
      · refine Step.mk (oi := _) rfl [(26, 1)] (fun cs b h => by cases h) (by kernel_rfl) (fun vs W hI hA => ?_)
        simp only [List.map]
        have h1 : vs 1 = .bool (!q) := hA 1 (by decide)
        rw [h1]
        simp only [putR, Act.put, List.setIfInBounds_toArray, List.set_cons_zero, List.set_cons_succ]
        refine SOp.val (v := .bool (!q)) (w' := W) (by kernel_rfl) (by go_simp) ⟨hI, upd_self _ _ _, fun _ _ _ _ _ h => h⟩
      · refine Step.mk (oi := _) rfl [(27, 2)] (fun cs b h => by cases h) (by kernel_rfl) (fun vs W hI hA => ?_)
        simp only [List.map]
        have h2 : vs 2 = .bool (!q) := hA 2 (by decide)
        rw [h2]
        cases q
        · simp only [putR, Act.put, List.setIfInBounds_toArray, List.set_cons_zero, List.set_cons_succ]
          exact SOp.skipped (by kernel_rfl) ⟨hI, upd_self _ _ _, fun _ _ _ _ _ h => h⟩
        · try simp only [cond]
          simp only [putR, Act.put, List.setIfInBounds_toArray, List.set_cons_zero, List.set_cons_succ]
          refine SOp.val (v := .func (.func 29) #[] #[]) (w' := W) (by kernel_rfl) (by go_simp) ⟨hI, upd_self _ _ _, fun _ _ _ _ _ h => h⟩
      · refine Step.mk (oi := _) rfl [(27, 2)] (fun cs b h => by cases h) (by kernel_rfl) (fun vs W hI hA => ?_)
        simp only [List.map]
        have h2 : vs 2 = .bool (!q) := hA 2 (by decide)
        rw [h2]
        have hbx : W.heap[wr.heap.size]? = some (.cells #[strL' x.k, strL' x.v] 42 (0, 0)) := (hI.block _ HLT4.out).trans HBX4.out
        have k0 := cell_in hbx 0
        have k1 := cell_in hbx 1
        simp at k0 k1
        cases q
        · simp only [putR, Act.put, List.setIfInBounds_toArray, List.set_cons_zero, List.set_cons_succ]
          exact SOp.skipped (by kernel_rfl) ⟨hI, upd_self _ _ _, fun _ _ _ _ _ h => h⟩
        · try simp only [cond]
          simp only [putR, Act.put, List.setIfInBounds_toArray, List.set_cons_zero, List.set_cons_succ]
          refine SOp.val (v := .agg #[strL' x.k, strL' x.v]) (w' := W) (by kernel_rfl) (by go_simp) ⟨hI, upd_self _ _ _, fun _ _ _ _ _ h => h⟩
      · refine Step.mk (oi := _) rfl [(27, 2)] (fun cs b h => by cases h) (by kernel_rfl) (fun vs W hI hA => ?_)
        simp only [List.map]
        have h2 : vs 2 = .bool (!q) := hA 2 (by decide)
        rw [h2]
        cases q
        · simp only [putR, Act.put, List.setIfInBounds_toArray, List.set_cons_zero, List.set_cons_succ]
          exact SOp.skipped (by kernel_rfl) ⟨hI, upd_self _ _ _, fun _ _ _ _ _ h => h⟩
        · try simp only [cond]
          simp only [putR, Act.put, List.setIfInBounds_toArray, List.set_cons_zero, List.set_cons_succ]
          refine SOp.val (v := .slice o2 m.length c2) (w' := W) (by kernel_rfl) (by go_simp) ⟨hI, upd_self _ _ _, fun _ _ _ _ _ h => h⟩
      · refine Step.mk (oi := _) rfl [(27, 2)] (fun cs b h => by cases h) (by kernel_rfl) (fun vs W hI hA => ?_)
        simp only [List.map]
        have h2 : vs 2 = .bool (!q) := hA 2 (by decide)
        rw [h2]
        cases q
        · simp only [putR, Act.put, List.setIfInBounds_toArray, List.set_cons_zero, List.set_cons_succ]
          exact SOp.skipped (by kernel_rfl) ⟨hI, upd_self _ _ _, fun _ _ _ _ _ h => h⟩
        · try simp only [cond]
          simp only [putR, Act.put, List.setIfInBounds_toArray, List.set_cons_zero, List.set_cons_succ]
          refine SOp.val (v := .int .i64 p) (w' := W) (by kernel_rfl) (by go_simp) ⟨hI, upd_self _ _ _, fun _ _ _ _ _ h => h⟩
      · refine Step.mk (oi := _) rfl [(30, 5), (31, 6), (27, 2)] (fun cs b h => by cases h) (by kernel_rfl) (fun vs W hI hA => ?_)
        simp only [List.map]
        have h5 : vs 5 = cond q (.slice o2 m.length c2) undef := hA 5 (by decide)
        have h6 : vs 6 = cond q (.int .i64 p) undef := hA 6 (by decide)
        have h2 : vs 2 = .bool (!q) := hA 2 (by decide)
        rw [h5, h6, h2]
        cases q
        · simp only [putR, Act.put, List.setIfInBounds_toArray, List.set_cons_zero, List.set_cons_succ]
          exact SOp.skipped (by kernel_rfl) ⟨hI, upd_self _ _ _, fun _ _ _ _ _ h => h⟩
        · obtain ⟨hpl, hgv, ⟨b2, off2, ho2, hP0, hb2⟩, hce⟩ := HYY.out.1 rfl
          subst ho2 hP0
          have j1 : (p : Int) < (m.length : Int) := by omega
          have j2 : (0 : Int) ≤ (p : Int) := by omega
          try simp only [cond]
          simp only [putR, Act.put, List.setIfInBounds_toArray, List.set_cons_zero, List.set_cons_succ]
          refine SOp.val (v := .pointer (some ⟨b2, off2 + p * 2, none⟩)) (w' := W) (by kernel_rfl) (by go_simp) ⟨hI, upd_self _ _ _, fun _ _ _ _ _ h => h⟩
      · refine Step.mk (oi := _) rfl [(32, 7), (27, 2)] (fun cs b h => by cases h) (by kernel_rfl) (fun vs W hI hA => ?_)
        simp only [List.map]
        have h7 : vs 7 = cond q (P0) undef := hA 7 (by decide)
        have h2 : vs 2 = .bool (!q) := hA 2 (by decide)
        rw [h7, h2]
        cases q
        · simp only [putR, Act.put, List.setIfInBounds_toArray, List.set_cons_zero, List.set_cons_succ]
          exact SOp.skipped (by kernel_rfl) ⟨hI, upd_self _ _ _, fun _ _ _ _ _ h => h⟩
        · obtain ⟨hpl, hgv, ⟨b2, off2, ho2, hP0, hb2⟩, hce⟩ := HYY.out.1 rfl
          obtain ⟨b3, off3, h3, d0, d1⟩ := hce W (HB4.out.trans (hI.mono HB4.out.size))
          subst ho2 hP0
          simp only [Option.some.injEq, Addr.mk.injEq, and_true] at h3
          obtain ⟨h3, h4⟩ := h3
          subst h3 h4
          try simp only [cond]
          simp only [putR, Act.put, List.setIfInBounds_toArray, List.set_cons_zero, List.set_cons_succ]
          refine SOp.val (v := .agg #[strL' x.k, strL' y]) (w' := W) (by kernel_rfl) (by go_simp) ⟨hI, upd_self _ _ _, fun _ _ _ _ _ h => h⟩
      · refine Step.mk (oi := _) rfl [(28, 3), (29, 4), (33, 8), (27, 2)] (fun cs b h => by cases h) (by kernel_rfl) (fun vs W hI hA => ?_)
        simp only [List.map]
        have h3 : vs 3 = cond q (.func (.func 29) #[] #[]) undef := hA 3 (by decide)
        have h4 : vs 4 = cond q (.agg #[strL' x.k, strL' x.v]) undef := hA 4 (by decide)
        have h8 : vs 8 = cond q (.agg #[strL' x.k, strL' y]) undef := hA 8 (by decide)
        have h2 : vs 2 = .bool (!q) := hA 2 (by decide)
        rw [h3, h4, h8, h2]
        cases q
        · simp only [putR, Act.put, List.setIfInBounds_toArray, List.set_cons_zero, List.set_cons_succ]
          exact SOp.skipped (by kernel_rfl) ⟨hI, upd_self _ _ _, fun _ _ _ _ _ h => h⟩
        · have hr := HYY.out.2.1
          try simp only [cond]
          simp only [putR, Act.put, List.setIfInBounds_toArray, List.set_cons_zero, List.set_cons_succ]
          refine SOp.enter (f := 29) (args := #[.agg #[strL' x.k, strL' x.v], .agg #[strL' x.k, strL' y]]) (by kernel_rfl) (by go_simp) ((same_2 x.k x.v y W).mono ?_)
          rintro e w3 ⟨rfl, hb⟩
          exact ⟨.bool r, by rw [hr], hI.trans (hb.mono hI.size), upd_self _ _ _, fun _ _ _ _ _ h => lesF_mono hb h⟩
      · refine Step.mk (oi := _) rfl [(34, 9), (27, 2)] (fun cs b h => by cases h) (by kernel_rfl) (fun vs W hI hA => ?_)
        simp only [List.map]
        have h9 : vs 9 = cond q (.bool r) undef := hA 9 (by decide)
        have h2 : vs 2 = .bool (!q) := hA 2 (by decide)
        rw [h9, h2]
        cases q
        · simp only [putR, Act.put, List.setIfInBounds_toArray, List.set_cons_zero, List.set_cons_succ]
          exact SOp.skipped (by kernel_rfl) ⟨hI, upd_self _ _ _, fun _ _ _ _ _ h => h⟩
        · try simp only [cond]
          simp only [putR, Act.put, List.setIfInBounds_toArray, List.set_cons_zero, List.set_cons_succ]
          refine SOp.val (v := .bool (!r)) (w' := W) (by kernel_rfl) (by go_simp) ⟨hI, upd_self _ _ _, fun _ _ _ _ _ h => h⟩
      · refine Step.mk (oi := _) rfl [(27, 2), (35, 10)] (fun cs b h => by cases h) (by kernel_rfl) (fun vs W hI hA => ?_)
        simp only [List.map]
        have h2 : vs 2 = .bool (!q) := hA 2 (by decide)
        have h10 : vs 10 = cond q (.bool (!r)) undef := hA 10 (by decide)
        rw [h2, h10]
        cases q
        · try simp only [cond]
          simp only [putR, Act.put, List.setIfInBounds_toArray, List.set_cons_zero, List.set_cons_succ]
          refine SOp.val (v := .bool true) (w' := W) (by kernel_rfl) (by go_simp) ⟨hI, upd_self _ _ _, fun _ _ _ _ _ h => h⟩
        · try simp only [cond]
          simp only [putR, Act.put, List.setIfInBounds_toArray, List.set_cons_zero, List.set_cons_succ]
          refine SOp.val (v := .bool (!r)) (w' := W) (by kernel_rfl) (by go_simp) ⟨hI, upd_self _ _ _, fun _ _ _ _ _ h => h⟩
      · intro vs V hI hφ
        have q11 : vs 11 = .bool (!q || !r) := hφ 11 (fun k _ => by rfl)
        clear hφ
        simp only [putAll, Act.put, List.setIfInBounds_toArray, List.set_cons_zero, List.set_cons_succ]
        rw [q11]
        clear q11
        have HB5 : Hid (Below w.heap.size w V) := Lib.hid (HB4.out.trans (hI.mono HB4.out.size))
        have HO5 := Lib.hid (HO4.out.below hI)
        have hbx : V.heap[wr.heap.size]? = some (.cells #[strL' x.k, strL' x.v] 42 (0, 0)) := (hI.block _ HLT4.out).trans HBX4.out
        have k0 := cell_in hbx 0
        have k1 := cell_in hbx 1
        simp at k0 k1
        clear hI hbx
        have hsp := HYY.out.2.2
        cases hd : (!q || !r)
        · rw [hd] at hsp
          have HF : Hid (newL (l.take (j + 1)) m = newL (l.take j) m) := Lib.hid (by rw [HTK.out]; unfold newL; rw [List.filter_append, List.filter_cons, ← hsp]; simp)
          clear hsp hd
          go_wp2
          go_roundg (l.length - (j + 1))
          case measure => omega
          case rel => exact ⟨j + 1, by omega, by go_num, Lib.hid (by rw [HF.out]; exact HO5.out), HB5⟩
        · rw [hd] at hsp
          have HF : Hid (newL (l.take (j + 1)) m = newL (l.take j) m ++ [x]) := Lib.hid (by rw [HTK.out]; unfold newL; rw [List.filter_append, List.filter_cons, ← hsp]; simp)
          clear hsp hd
          have hlen : (newL (l.take j) m).length ≤ 100000 := by unfold newL; have := List.length_filter_le (p := fun e : En => decide (getV m e.k ≠ some e.v)) (l := l.take j); rw [List.length_take] at this; omega
          have hb5 := HB5.out.size
          go_wp2_with (at_builtin; refine wpList_appown _ rfl (.tmp 37) (.tmp 39) 30 rfl i0 _ 2 32 Tryz.underlying30 hi hz0 hz1 hz2 rfl (by decide) rfl (ownC_al HO5.out _) V.heap.size 1 #[strL' x.k, strL' x.v] 42 rfl (heap_alloc_new _ _) rfl ?d1 hlen (by decide) ?d2 ?_)
          case d1 => exact ⟨rfl, rfl⟩
          case d2 => simp; omega
          intro v' w4 ho4 hg4
          have HO6 : Hid (EnO w4 w.heap.size v' (newL (l.take (j + 1)) m)) := Lib.hid (by rw [HF.out]; unfold EnO; rw [List.length_append, List.flatMap_append]; exact ho4)
          have HB6 : Hid (Below w.heap.size w w4) := Lib.hid ((HB5.out.alloc hb5 _).grown hg4 (by simp; omega) (fun g hg => (ownC_blk HO5.out g hg).1))
          clear ho4 hg4
          go_wp2
          go_roundg (l.length - (j + 1))
          case measure => omega
          case rel => exact ⟨j + 1, by omega, by go_num, HO6, HB6⟩
    · obtain rfl : j = l.length := by omega
      have ho : EnO wr w.heap.size u7 (newL l m) := by have := HO.out; rwa [List.take_length] at this
      have HO' := Lib.hid ho
      clear ho
      go_wp2
      go_ret
      exact ⟨_, rfl, HO'.out, HB.out⟩
end Go.Proofs.YtjakdbahopbggaaGreatDoor
