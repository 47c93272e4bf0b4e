/- What slices.Insert leaves, one entry put in, and leaf.Put. Conditions: a row of one's own. -/
import Derived.Test.YtjakdbahopbggaaGreatDoorZK39
import Derived.Test.YtjakdbahopbggaaGreatDoorZSv8
import Derived.Shelf.RegionOpenPlain
import Derived.Lib.Overlaps
namespace Go.Proofs.YtjakdbahopbggaaGreatDoor
open Go.RowKit Go.Ow Go.Wi

theorem step_copy2 {P : Program} {ops : Array Oper} {o : Oper} {a : Act} {w : World} {K : Act → World → Prop} {Q : Exit → Act → World → Prop} {E : Prop}
    (hg : o.guard = none) (d x : Operand) (dT sT : TypeId) (hop : o.op = Op.call { callee := Callee.builtin Builtin.copy, args := #[d, x], argTypes := #[dT, sT] })
    (v u : Value) (hd : a.eval d = v) (hx : a.eval x = u) {v' : Value} {w' : World} (hr : (Builtin.copy_ #[dT, sT] o.type #[v, u]).run P w = .ok v' w') (hK : K (a.put o.dst v') w') :
    if Region.wanted o (yielded ops a.tmps) = true then Oper.wp P o a w K Q else E := by
  have hw : Region.wanted o (yielded ops a.tmps) = true := by simp [Region.wanted, hg]
  rw [if_pos hw]
  unfold Oper.wp
  simp [execOp, hop, resolve, invoke, builtin, hd, hx, hr, Result.andThen]
  exact hK
theorem wpList_grow0 (w : World) {ops : Array Oper} {rest : List Oper} {o : Oper} {a : Act} {Q : Exit → Act → World → Prop} (hgd : o.guard = none) (s x : Operand)
    (ho : o.op = .call { callee := .builtin .append, args := #[s, x], argTypes := #[30, 3] }) (g i cap k : Nat) (z : Int) (cur : Array Value) (hs : a.eval s = .slice (some ⟨g, 0, none⟩) i cap) (hx : a.eval x = .int .i64 z) (hz : z = k)
    (h : Rw w g cur) (hsz : cur.size = cap * 2) (hi0 : i ≤ cap) (hk : 0 < k) (hroom : cap < i + k) (hm : i + k ≤ 100000)
    (hK : ∀ C cur', i + k ≤ C → C ≤ maxLen → cur'.size = C * 2 → cur'.toList.take (i * 2) = cur.toList.take (i * 2) → wpList Tryz.prog ops Q rest (a.put o.dst (.slice (some ⟨w.heap.size, 0, none⟩) (i + k) C)) (w.drew.alloc (.cells cur' 42))) : wpList Tryz.prog ops Q (o :: rest) a w := by
  subst hz
  refine wpList_plain hgd fun K hK' => ?_
  obtain ⟨C, cur', hrun, h1, h2, h3, h4⟩ := app_grow0 w o.type g i cap k cur h hsz hi0 hk hroom hm
  unfold Oper.wp
  simp [execOp, ho, resolve, invoke, builtin, hs, hx, hrun, Result.andThen]
  exact hK' _ _ (hK C cur' h1 h2 h3 h4)
set_option maxRecDepth 100000 in
set_option maxHeartbeats 8000000 in
theorem insert_end (B : Nat) (u : Value) (n : Nat) (l : List En) (vb : Nat) (e : En) (w : World) (hu : w.ownsRow B 42 2 u n (l.flatMap enC)) (hl : l.length = n) (hB : B ≤ w.heap.size) (hn : n ≤ 20000) (hv : w.heap[vb]? = some (.cells #[strL' e.k, strL' e.v] 42 (0, 0))) :
    Calls Tryz.prog 33 #[u, .int .i64 n, .slice (some ⟨vb, 0, none⟩) 1 1] w fun r w' => ∃ u', r = .returned u' ∧ EnO w' B u' (l ++ [e]) ∧ Below B w w' := by
  obtain ⟨o, c, rfl, hc⟩ := ownC_form hu
  have HU := Lib.hid hu
  have HE := Lib.hid (one_ena hv)
  have hbd : n + 1 ≤ 1000000 := by omega
  clear hu hv
  go_enter Tryz.func33, Tryz.ntmps33
  go_wp2_with (at_builtin; refine wpList_appen _ rfl (.tmp 23) (.tmp 24) rfl rfl HU.out (some ⟨vb, 0, none⟩) [e] 1 1 rfl rfl HE.out hbd hB ?_)
  all_goals
  intro v' w4 ho4 hg4
  have HO : Hid (EnO w4 B v' (l ++ [e])) := Lib.hid (by unfold EnO; rw [List.length_append, hl]; simpa using ho4)
  have HB := Lib.hid (grown_below HU.out hB (by cases o <;> exact hg4))
  clear ho4 hg4
  go_wp2
  go_ret
  exact ⟨_, rfl, HO.out, HB.out⟩
set_option maxRecDepth 100000 in
set_option maxHeartbeats 8000000 in
theorem insert_grow (g p n cap : Nat) (cur : Array Value) (vb : Nat) (e : En) (w : World) (h : Rw w g cur) (hp : p < n) (hn : n ≤ cap) (hs : cur.size = cap * 2) (hc : cap ≤ maxLen) (hfull : cap < n + 1) (hsm : n ≤ 20000) (h1 : ∀ u ∈ cur.toList.take (n * 2), u.oneCell' = true) (hv : w.heap[vb]? = some (.cells #[strL' e.k, strL' e.v] 42 (0, 0))) :
    Calls Tryz.prog 33 #[.slice (some ⟨g, 0, none⟩) n cap, .int .i64 p, .slice (some ⟨vb, 0, none⟩) 1 1] w fun r w' => ∃ u', r = .returned u' ∧ w'.ownsRow w.heap.size 42 2 u' (n + 1) (cur.toList.take (p * 2) ++ enC e ++ (cur.toList.take (n * 2)).drop (p * 2)) ∧ Below w.heap.size w w' := by
  have hcm : cap ≤ 9223372036854775807 := Nat.le_trans hc (by decide)
  have HR := Lib.hid h
  have hpc : p ≤ cap := by omega
  have hkp : 0 < n + 1 - p := by omega
  have hro : cap < p + (n + 1 - p) := by omega
  have hmm : p + (n + 1 - p) ≤ 100000 := by omega
  have HZZ : Hid ((n : Int) + 1 - p = ((n + 1 - p : Nat) : Int)) := Lib.hid (by omega)
  have j1 : (p : Int) ≤ (n : Int) := by omega
  have j2 : ¬ ((p : Int) = (n : Int)) := by omega
  have j3 : (n : Int) + 1 > (cap : Int) := by omega
  clear h
  go_enter Tryz.func33, Tryz.ntmps33
  go_upto_region 10 with (at_builtin; refine wpList_grow0 _ rfl (.tmp 34) (.tmp 39) rfl g p cap (n + 1 - p) _ cur rfl rfl HZZ.out HR.out hs hpc hkp hro hmm ?_)
  intro C cur' hC1 hC2 hC3 hC4
  have e0 : p + (n + 1 - p) = n + 1 := by omega
  rw [e0] at hC1 ⊢
  go_upto_region 10 with fail
  have hr1 : Rw (w.alloc (.cells cur' 42)).drew w.heap.size cur' := heap_alloc_new w _
  have HR1 := Lib.hid hr1
  have e1 : Nat.min 1 (n + 1 - p) = 1 := Nat.min_eq_left (by omega)
  have hv1 : ∀ j v, (enC e)[j]? = some v → (w.alloc (.cells cur' 42)).drew.cell? ((Addr.mk vb 0 Option.none).add j) = some v := by
    have h2 := (one_ena (e := e) (w := (w.alloc (.cells cur' 42)).drew) (g := vb) (by show (w.alloc _).heap[vb]? = _; rw [Below.heap_alloc _ _ _ (Array.getElem?_eq_some_iff.1 hv).1]; exact hv)).news
    simpa using h2
  have hcp1 : ∀ ty, (Builtin.copy_ #[30, 30] ty #[.slice (some ⟨w.heap.size, p * 2, none⟩) (n + 1 - p) (C - p), .slice (some ⟨vb, 0, none⟩) 1 1]).run Tryz.prog (w.alloc (.cells cur' 42)).drew = .ok (goInt 1) ((w.alloc (.cells cur' 42)).drew.setRow w.heap.size (putAt cur' (p * 2) (enC e))) := fun ty =>
    copy2 _ ty w.heap.size (p * 2) (n + 1 - p) (C - p) ⟨vb, 0, none⟩ 1 1 1 cur' (enC e) hr1 e1 rfl hv1 (by show p * 2 + 2 ≤ _; omega) (by intro u hu; simp only [enC, List.mem_cons, List.not_mem_nil, or_false] at hu; rcases hu with rfl | rfl <;> rfl)
  have HC3 := Lib.hid hC3
  have HC4 := Lib.hid hC4
  clear hr1 hv1 hC3 hC4 e0
  go_upto_region 11 with fail
  obtain ⟨W2, hW2⟩ : ∃ W2, ((w.alloc (.cells cur' 42)).drew).setRow w.heap.size (putAt cur' (p * 2) (enC e)) = W2 := ⟨_, rfl⟩
  rw [hW2]
  have hr2 : Rw W2.drew w.heap.size (putAt cur' (p * 2) (enC e)) := by rw [← hW2]; exact HR1.out.set _
  have hne : g ≠ w.heap.size := by have := HR.out.lt; omega
  have hrg : Rw W2.drew g cur := by
    rw [← hW2]
    show (World.setRow _ _ _).heap[g]? = _
    rw [setRow_other _ _ _ _ hne]
    show (w.alloc _).heap[g]? = _
    rw [Below.heap_alloc _ _ _ HR.out.lt]
    exact HR.out
  obtain ⟨tl, htl⟩ : ∃ l, (cur.toList.take (n * 2)).drop (p * 2) = l := ⟨_, rfl⟩
  have htlen : tl.length = (n - p) * 2 := by rw [← htl]; simp; omega
  have hs2 : ∀ j v, tl[j]? = some v → W2.drew.cell? ((Addr.mk g (p * 2) Option.none).add j) = some v := fun j v hj => by
    rw [Addr.add_lit, hrg.cell]
    rw [← htl, List.getElem?_drop, List.getElem?_take] at hj
    split at hj
    · exact hj
    · cases hj
  have hps : (putAt cur' (p * 2) (enC e)).size = C * 2 := by rw [putAt_size (by have := HC3.out; show p * 2 + 2 ≤ _; omega)]; exact HC3.out
  have h1t : ∀ u ∈ tl, u.oneCell' = true := fun u hu => h1 u (by rw [← htl] at hu; exact List.mem_of_mem_drop hu)
  have e5 : Nat.min (n - p) (n - p) = n - p := Nat.min_self _
  have hcp2 : ∀ ty dc sc, (Builtin.copy_ #[30, 30] ty #[.slice (some ⟨w.heap.size, (p + 1) * 2, none⟩) (n - p) dc, .slice (some ⟨g, p * 2, none⟩) (n - p) sc]).run Tryz.prog W2.drew = .ok (goInt ((n - p : Nat) : Int)) (W2.drew.setRow w.heap.size (putAt (putAt cur' (p * 2) (enC e)) ((p + 1) * 2) tl)) := fun ty dc sc =>
    copy2 _ ty w.heap.size ((p + 1) * 2) (n - p) dc ⟨g, p * 2, none⟩ (n - p) sc (n - p) _ tl hr2 e5 htlen hs2 (by rw [hps]; omega) h1t
  have hfin : (putAt (putAt cur' (p * 2) (enC e)) ((p + 1) * 2) tl).toList.take ((n + 1) * 2) = cur.toList.take (p * 2) ++ enC e ++ tl := by
    have e2 : (n + 1) * 2 = (p + 1) * 2 + tl.length := by rw [htlen]; omega
    have e3 : (p + 1) * 2 = p * 2 + (enC e).length := by show _ = p * 2 + 2; omega
    rw [e2, putAt_take (by rw [hps]; omega), e3, putAt_take (by have := HC3.out; omega), HC4.out]
  have HFIN := Lib.hid hfin
  have hsz3 : (putAt (putAt cur' (p * 2) (enC e)) ((p + 1) * 2) tl).size = C * 2 := by rw [putAt_size (by rw [hps]; omega)]; exact hps
  have HSZ3 := Lib.hid hsz3
  have HR3 := Lib.hid (hr2.set (putAt (putAt cur' (p * 2) (enC e)) ((p + 1) * 2) tl))
  have HBB : Hid (Below w.heap.size w W2) := Lib.hid (by
    rw [← hW2]
    have b1 : Below w.heap.size w (w.alloc (.cells cur' 42)).drew := ((Below.refl _ _).alloc (Nat.le_refl _) _).drew
    exact b1.trans ((But.setRow w.heap.size _ _).below (Nat.le_refl _) (by show _ ≤ (w.alloc _).heap.size; simp)))
  have HWS : Hid (w.heap.size ≤ W2.heap.size) := Lib.hid HBB.out.size
  clear e5 hr2 hrg hs2 hps h1t hfin hsz3 hcp1 hW2 e1 hv h1
  have mixed : Tryz.prog.follows Departure.mixedOrders = true := by kernel_rfl
  have hw1 : IntKind.i64.wrap ((p : Int) + 1) = (p : Int) + 1 := by rw [IntKind.wrap_i64]; omega
  have hb1 : (0 : Int) ≤ (p : Int) + 1 := by omega
  have htn : ((p : Int) + 1).toNat = p + 1 := by omega
  have hb2 : ¬ (C = p + 1) := by omega
  have hb3 : (p : Int) + 1 ≤ (n : Int) + 1 := by omega
  have hb4 : ¬ (cap = p) := by omega
  go_region_law_o (refine step_copy2 rfl (.tmp 50) (.tmp 53) 30 30 rfl _ _ (by simp [Act.eval, Act.put]) (by simp [Act.eval, Act.put]) (hcp2 _ _ _) ?_)
  go_wp2
  go_ret
  rw [htl]
  exact ⟨_, rfl, ⟨by have := congrArg List.length HFIN.out; rw [List.length_take] at this; have := HSZ3.out; simp at *; omega, .inr ⟨w.heap.size, C, _, rfl, Nat.le_refl _, HR3.out, hC1, hC2, HSZ3.out, HFIN.out⟩⟩, HBB.out.trans (((But.drewN w.heap.size W2 1).trans (But.setRow w.heap.size _ _)).below (Nat.le_refl _) HWS.out)⟩
theorem size_entry (w : World) : (Go.sizeOf 42).run Tryz.prog w = .ok 2 w := by
  obtain ⟨i0, hi, hz0, hz1, hz2⟩ := info_parts info_entry
  simp [Go.sizeOf, typeInfo, hi, hz1]
set_option maxRecDepth 100000 in
set_option maxHeartbeats 8000000 in
theorem insert_room (g p n cap : Nat) (cur : Array Value) (vb : Nat) (e : En) (w : World) (h : Rw w g cur) (hp : p < n) (hs : cur.size = cap * 2) (hc : cap ≤ maxLen) (hroom : n + 1 ≤ cap) (hsm : n ≤ 20000) (h1 : ∀ u ∈ cur.toList.take (n * 2), u.oneCell' = true) (hv : w.heap[vb]? = some (.cells #[strL' e.k, strL' e.v] 42 (0, 0))) (hvb : vb ≠ g) :
    Calls Tryz.prog 33 #[.slice (some ⟨g, 0, none⟩) n cap, .int .i64 p, .slice (some ⟨vb, 0, none⟩) 1 1] w fun r w' => r = .returned (.slice (some ⟨g, 0, none⟩) (n + 1) cap) ∧ But g w w' ∧ ∃ cur2, Rw w' g cur2 ∧ cur2.size = cap * 2 ∧ cur2.toList.take ((n + 1) * 2) = cur.toList.take (p * 2) ++ enC e ++ (cur.toList.take (n * 2)).drop (p * 2) := by
  have hcm : cap ≤ 9223372036854775807 := Nat.le_trans hc (by decide)
  have HR := Lib.hid h
  have j1 : (p : Int) ≤ (n : Int) := by omega
  have j2 : ¬ ((p : Int) = (n : Int)) := by omega
  have j3 : ¬ ((n : Int) + 1 > (cap : Int)) := by omega
  have j4 : (n : Int) + 1 ≤ (cap : Int) := by omega
  have hov : ∀ lb cb, (callFunc 49 #[.slice (some ⟨vb, 0, none⟩) 1 1, .slice (some ⟨g, (p + 1) * 2, none⟩) lb cb]).run Tryz.prog w = .ok (.value (.bool false)) w := fun lb cb => by
    rw [run_callFunc_extern Tryz.func49 (by kernel_rfl) (by kernel_rfl) (by kernel_rfl) (e := Extern.SlicesOverlaps.overlaps #[30, 30] #[4]) (by kernel_rfl),
      Lib.run_overlaps_apart w 30 4 42 Tryz.underlying30 2 size_entry ⟨vb, 0, none⟩ ⟨g, (p + 1) * 2, none⟩ 1 1 lb cb hvb 42 42 2 cur.size (by simp [World.shape?, hv]) (by simp [World.shape?, show w.heap[g]? = _ from h]) (by omega) (by simp [World.frozen?, hv]) (by simp [World.frozen?, hv])]
    rfl
  obtain ⟨tl, htl⟩ : ∃ l, (cur.toList.take (n * 2)).drop (p * 2) = l := ⟨_, rfl⟩
  have htlen : tl.length = (n - p) * 2 := by rw [← htl]; simp; omega
  have hs2 : ∀ j v, tl[j]? = some v → w.drew.cell? ((Addr.mk g (p * 2) Option.none).add j) = some v := fun j v hj => by
    rw [Addr.add_lit]
    show w.cell? _ = _
    rw [h.cell]
    rw [← htl, List.getElem?_drop, List.getElem?_take] at hj
    split at hj
    · exact hj
    · cases hj
  have h1t : ∀ u ∈ tl, u.oneCell' = true := fun u hu => h1 u (by rw [← htl] at hu; exact List.mem_of_mem_drop hu)
  have e5 : Nat.min (n + 1 - p) (n - p) = n - p := Nat.min_eq_right (by omega)
  have hcp1 : ∀ ty dc sc, (Builtin.copy_ #[30, 30] ty #[.slice (some ⟨g, (p + 1) * 2, none⟩) (n - p) dc, .slice (some ⟨g, p * 2, none⟩) (n + 1 - p) sc]).run Tryz.prog w.drew = .ok (goInt ((n - p : Nat) : Int)) (w.drew.setRow g (putAt cur ((p + 1) * 2) tl)) := fun ty dc sc =>
    copy2 _ ty g ((p + 1) * 2) (n - p) dc ⟨g, p * 2, none⟩ (n + 1 - p) sc (n - p) cur tl h e5 htlen hs2 (by omega) h1t
  obtain ⟨W2, hW2⟩ : ∃ W2, w.drew.setRow g (putAt cur ((p + 1) * 2) tl) = W2 := ⟨_, rfl⟩
  rw [hW2] at hcp1
  have hr2 : Rw W2 g (putAt cur ((p + 1) * 2) tl) := by rw [← hW2]; exact Rw.set (w := w.drew) h _
  have hps : (putAt cur ((p + 1) * 2) tl).size = cap * 2 := by rw [putAt_size (by omega)]; exact hs
  have e1 : Nat.min 1 (n + 1 - p) = 1 := Nat.min_eq_left (by omega)
  have hv1 : ∀ j v, (enC e)[j]? = some v → W2.cell? ((Addr.mk vb 0 Option.none).add j) = some v := by
    have h2 := (one_ena (e := e) (w := W2) (g := vb) (by rw [← hW2, setRow_other _ _ _ _ hvb]; exact hv)).news
    simpa using h2
  have hcp2 : ∀ ty dc, (Builtin.copy_ #[30, 30] ty #[.slice (some ⟨g, p * 2, none⟩) (n + 1 - p) dc, .slice (some ⟨vb, 0, none⟩) 1 1]).run Tryz.prog W2 = .ok (goInt 1) (W2.setRow g (putAt (putAt cur ((p + 1) * 2) tl) (p * 2) (enC e))) := fun ty dc =>
    copy2 _ ty g (p * 2) (n + 1 - p) dc ⟨vb, 0, none⟩ 1 1 1 _ (enC e) hr2 e1 rfl hv1 (by show p * 2 + 2 ≤ _; omega) (by intro u hu; simp only [enC, List.mem_cons, List.not_mem_nil, or_false] at hu; rcases hu with rfl | rfl <;> rfl)
  have hfin : (putAt (putAt cur ((p + 1) * 2) tl) (p * 2) (enC e)).toList.take ((n + 1) * 2) = cur.toList.take (p * 2) ++ enC e ++ tl := by
    have a1 : (putAt cur ((p + 1) * 2) tl).toList.take (p * 2) = cur.toList.take (p * 2) := putAt_before (by omega) (by omega)
    have a2 : (putAt cur ((p + 1) * 2) tl).toList.drop (p * 2 + 2) = tl ++ cur.toList.drop ((p + 1) * 2 + tl.length) := by
      unfold putAt
      rw [List.toList_toArray, List.append_assoc, List.drop_append]
      rw [List.drop_of_length_le (by simp; omega)]
      simp
      rw [show p * 2 + 2 - min ((p + 1) * 2) cur.size = 0 by omega]
      simp
    unfold putAt at a1 a2 ⊢
    rw [List.toList_toArray]
    rw [show p * 2 + (enC e).length = p * 2 + 2 from rfl, a1, a2]
    have e2 : (n + 1) * 2 = (cur.toList.take (p * 2) ++ enC e ++ tl).length := by simp only [List.length_append, htlen, List.length_take, Array.length_toList]; show _ = min (p * 2) cur.size + 2 + _; omega
    rw [e2, ← List.append_assoc, List.take_left']
    rfl
  have HFIN := Lib.hid hfin
  have HSZ : Hid ((putAt (putAt cur ((p + 1) * 2) tl) (p * 2) (enC e)).size = cap * 2) := Lib.hid (by rw [putAt_size (by show p * 2 + 2 ≤ _; omega)]; exact hps)
  have HR3 := Lib.hid (hr2.set (putAt (putAt cur ((p + 1) * 2) tl) (p * 2) (enC e)))
  have HB : Hid (But g w W2) := Lib.hid (by rw [← hW2]; exact (But.drewN g w 1).trans (But.setRow g _ _))
  have mixed : Tryz.prog.follows Departure.mixedOrders = true := by kernel_rfl
  have hw1 : IntKind.i64.wrap ((p : Int) + 1) = (p : Int) + 1 := by rw [IntKind.wrap_i64]; omega
  have hb1 : (0 : Int) ≤ (p : Int) + 1 := by omega
  have htn : ((p : Int) + 1).toNat = p + 1 := by omega
  have hb2 : ¬ (cap = p + 1) := by omega
  have hb3 : (p : Int) + 1 ≤ (n : Int) + 1 := by omega
  have hb4 : ¬ (cap = p) := by omega
  have hb5 : (p : Int) ≤ (n : Int) + 1 := by omega
  have hb6 : (0 : Int) ≤ (p : Int) := by omega
  clear hr2 hs2 hps h1t hfin hW2 e1 e5 hv h1 hv1 h
  go_enter Tryz.func33, Tryz.ntmps33
  go_upto_region 15 with (simp only [hov])
  go_region_law_o (refine step_copy2 rfl (.tmp 73) (.tmp 76) 30 30 rfl _ _ (by simp [Act.eval, Act.put]) (by simp [Act.eval, Act.put]) (hcp1 _ _ _) ?_)
  go_wp2
  go_ret
  exact ⟨rfl, HB.out.trans (But.setRow g W2 _), _, HR3.out, HSZ.out, by rw [← List.append_assoc]; exact HFIN.out⟩
end Go.Proofs.YtjakdbahopbggaaGreatDoor
