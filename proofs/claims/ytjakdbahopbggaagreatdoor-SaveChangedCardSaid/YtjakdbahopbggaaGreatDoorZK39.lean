/- What slices.Delete leaves of a row of entries, one taken out. Conditions: a row of one's own. -/
import Derived.Test.YtjakdbahopbggaaGreatDoorZK38
import Derived.Test.YtjakdbahopbggaaGreatDoorZSv5
import Derived.Lib.SliceRun
section
namespace Go.Proofs.YtjakdbahopbggaaGreatDoor
open Go.RowKit Go.Ow Go.Wi Go.Inv2

theorem putAt_take {cur : Array Value} {o : Nat} {cs : List Value} (h : o ≤ cur.size) : (putAt cur o cs).toList.take (o + cs.length) = cur.toList.take o ++ cs := by
  unfold putAt
  have e : (cur.toList.take o ++ cs).length = o + cs.length := by simp; omega
  rw [List.toList_toArray, ← e, List.take_left']
  rfl
theorem putAt_before {cur : Array Value} {o m : Nat} {cs : List Value} (h : m ≤ o) (ho : o ≤ cur.size) : (putAt cur o cs).toList.take m = cur.toList.take m := by
  unfold putAt
  rw [List.toList_toArray, List.append_assoc, List.take_append_of_le_length (by simp; omega), List.take_take, Nat.min_eq_left h]

/-- what each operation of the region leaves -/
def dleF (g0 ix n cap : Nat) (A : Addr) (cur cur1 : Array Value) : Nat → Value → List Value → World → Prop
  | 0, u, _, _ => u = .slice (some ⟨g0, 0, none⟩) n cap
  | 1, u, _, _ => u = .int .i64 ix
  | 2, u, _, _ => u = .slice (some ⟨g0, 0, none⟩) ix cap
  | 3, u, _, _ => u = .slice (some ⟨g0, 0, none⟩) n cap
  | 4, u, _, _ => u = .int .i64 ((ix : Int) + 1)
  | 5, u, _, _ => u = .slice (some A) (n - (ix + 1)) (cap - (ix + 1))
  | 6, u, _, w => u = .slice (some ⟨g0, 0, none⟩) (ix + (n - (ix + 1))) cap ∧ Rw w g0 cur1
  | 7, u, _, _ => u = .slice (some ⟨g0, 0, none⟩) (ix + (n - (ix + 1))) cap
  | 8, _, _, w => Rw w g0 cur
  | _, _, _, _ => True
def dleAnc (i : Nat) : List Nat := ([[], [], [0, 1], [], [], [3, 4], [0, 1, 2, 3, 4, 5], [0, 1, 2, 3, 4, 5, 6]] : List (List Nat)).getD i []
def dleNeed (i : Nat) : List Nat := ([[], [], [0, 1], [], [], [3, 4], [2, 5, 8], [6]] : List (List Nat)).getD i []
def dleDep (i : Nat) : List Nat := ([[], [], [], [], [], [], [], []] : List (List Nat)).getD i []
def dleKill (i j : Nat) : Bool := (i == 6 && j == 8)
def dlePure (j : Nat) : Bool := !([6, 8].contains j)
theorem dleF_pure {j : Nat} {u : Value} {ds : List Value} {w w' : World} {g0 ix n cap : Nat} {A : Addr} {cur cur1 : Array Value} (hp : dlePure j = true) (h : dleF g0 ix n cap A cur cur1 j u ds w) : dleF g0 ix n cap A cur cur1 j u ds w' := by
  match j with
  | 0 => exact h
  | 1 => exact h
  | 2 => exact h
  | 3 => exact h
  | 4 => exact h
  | 5 => exact h
  | 6 => exact absurd hp (by decide)
  | 7 => exact h
  | 8 => exact absurd hp (by decide)
  | _ + 9 => trivial
theorem dleF_mono {j : Nat} {u : Value} {ds : List Value} {w w' : World} {g0 ix n cap : Nat} {A : Addr} {cur cur1 : Array Value} (hb : Below w.heap.size w w') (h : dleF g0 ix n cap A cur cur1 j u ds w) : dleF g0 ix n cap A cur cur1 j u ds w' := by
  match j with
  | 0 => exact h
  | 1 => exact h
  | 2 => exact h
  | 3 => exact h
  | 4 => exact h
  | 5 => exact h
  | 6 => exact ⟨h.1, Rw.below h.2 hb⟩
  | 7 => exact h
  | 8 => exact Rw.below h hb
  | _ + 9 => trivial
theorem dleKeep (x : List Nat) {i : Nat} (h : ((List.range 9).all fun j => dlePure j || j == i || dleKill i j || (dleAnc j).contains i || x.contains j) = true) {w w' : World} {g0 ix n cap : Nat} {A : Addr} {cur cur1 : Array Value} : ∀ j (vs' : Nat → Value), j ≠ i → dleKill i j = false → (dleAnc j).contains i = false → (x.contains j = false) →
    asrt (dleF g0 ix n cap A cur cur1) dleDep j vs' w → asrt (dleF g0 ix n cap A cur cur1) dleDep j vs' w' := by
  intro j vs' h1 h2 h3 h0 h4
  by_cases hj : j < 9
  · have := List.all_eq_true.1 h j (List.mem_range.2 hj)
    rw [h2, h3, h0] at this
    simp only [Bool.or_false, Bool.or_eq_true, beq_iff_eq] at this
    rcases this with h5 | h5
    · exact dleF_pure h5 h4
    · exact absurd h5 h1
  · exact dleF_pure (by unfold dlePure; simp; omega) h4
theorem dleAnc_out {j : Nat} (h : 8 ≤ j) : dleAnc j = [] := by
  unfold dleAnc
  rw [List.getD_eq_getElem?_getD, List.getElem?_eq_none (by simpa using h)]
  rfl
theorem dleDep_out {j : Nat} (h : 8 ≤ j) : dleDep j = [] := by
  unfold dleDep
  rw [List.getD_eq_getElem?_getD, List.getElem?_eq_none (by simpa using h)]
  rfl
theorem dleDep_anc : ∀ j, ∀ d ∈ dleDep j, d ∈ dleAnc j := by
  intro j d hd
  by_cases h : j < 8
  · exact (by decide : ∀ j, j < 8 → ∀ d ∈ dleDep j, d ∈ dleAnc j) j h d hd
  · rw [dleDep_out (by omega)] at hd
    cases hd
set_option maxRecDepth 100000 in
set_option maxHeartbeats 8000000 in
theorem delete_row (g0 ix n cap : Nat) (cur : Array Value) (w : World) (h : Rw w g0 cur) (hi : ix < n) (hn : n ≤ cap) (hs : cur.size = cap * 2) (hc : cap ≤ maxLen) (h1 : ∀ u ∈ cur.toList.take (n * 2), u.oneCell' = true) :
    Calls Tryz.prog 32 #[.slice (some ⟨g0, 0, none⟩) n cap, .int .i64 ix, .int .i64 ((ix : Int) + 1)] w fun e w' => e = .returned (.slice (some ⟨g0, 0, none⟩) (n - 1) cap) ∧ But g0 w w' ∧ ∃ cur2, Rw w' g0 cur2 ∧ cur2.size = cap * 2 ∧ cur2.toList.take ((n - 1) * 2) = cur.toList.take (ix * 2) ++ (cur.toList.take (n * 2)).drop ((ix + 1) * 2) := by
  have hcm : cap ≤ 9223372036854775807 := Nat.le_trans hc (by decide)
  obtain ⟨news, hnews⟩ : ∃ l, (cur.toList.take (n * 2)).drop ((ix + 1) * 2) = l := ⟨_, rfl⟩
  have hlen : news.length = (n - (ix + 1)) * 2 := by rw [← hnews]; simp; omega
  have hget : ∀ j u, news[j]? = some u → cur.toList[(ix + 1) * 2 + j]? = some u := by
    intro j u hj
    rw [← hnews, List.getElem?_drop, List.getElem?_take] at hj
    split at hj
    · exact hj
    · cases hj
  have h1n : ∀ u ∈ news, u.oneCell' = true := fun u hu => h1 u (by rw [← hnews] at hu; exact List.mem_of_mem_drop hu)
  obtain ⟨A, hA, hsrc⟩ : ∃ A : Addr, (if cap = ix + 1 then some (⟨g0, 0, none⟩ : Addr) else some ⟨g0, (ix + 1) * 2, none⟩) = some A ∧ ∀ W, Rw W g0 cur → ∀ j u, news[j]? = some u → W.cell? (A.add j) = some u := by
    by_cases hcap : cap = ix + 1
    · refine ⟨⟨g0, 0, none⟩, by simp [hcap], fun W _ j u hj => ?_⟩
      have h0 : news.length = 0 := by rw [hlen]; omega
      rw [List.length_eq_zero_iff.1 h0] at hj
      simp at hj
    · refine ⟨⟨g0, (ix + 1) * 2, none⟩, by simp [hcap], fun W hW j u hj => ?_⟩
      rw [Addr.add_lit, hW.cell]
      exact hget j u hj
  obtain ⟨cur1, hcur1⟩ : ∃ c, putAt cur (ix * 2) news = c := ⟨_, rfl⟩
  have hs1 : cur1.size = cap * 2 := by rw [← hcur1, putAt_size (by omega), hs]
  have happ : ∀ (W : World) (ty : TypeId), Rw W g0 cur → (Builtin.append_ #[30, 30] ty #[.slice (some ⟨g0, 0, none⟩) ix cap, .slice (some A) (n - (ix + 1)) (cap - (ix + 1))]).run Tryz.prog W = .ok (.slice (some ⟨g0, 0, none⟩) (ix + (n - (ix + 1))) cap) (W.setRow g0 cur1) := fun W ty hW => by
    rw [← hcur1]
    exact app_room2 W ty g0 ix cap (n - (ix + 1)) (cap - (ix + 1)) cur A news hW hlen (hsrc W hW) h1n (by omega) (by omega)
  have htk : (putAt cur1 ((n - 1) * 2) [.string ⟨#[]⟩, .string ⟨#[]⟩]).toList.take ((n - 1) * 2) = cur.toList.take (ix * 2) ++ news := by
    rw [putAt_before (Nat.le_refl _) (by omega), ← hcur1, show (n - 1) * 2 = ix * 2 + news.length by omega, putAt_take (by omega)]
  have HAPP := Lib.hid happ
  have HTK := Lib.hid htk
  have HR := Lib.hid h
  have HA := Lib.hid hA
  have HS1 := Lib.hid hs1
  have e1 : ix + (n - (ix + 1)) = n - 1 := by omega
  have i1 : (ix : Int) ≤ (ix : Int) + 1 := by omega
  have i2 : (ix : Int) + 1 ≤ (n : Int) := by omega
  have i3 : (n : Int) ≤ (cap : Int) := by omega
  have i4 : (0 : Int) ≤ (ix : Int) := by omega
  clear hsrc hget h1n h1 hcur1 happ htk h hA hs1 hlen
  go_enter Tryz.func32, Tryz.ntmps32
  go_upto_region 5 with fail
  refine wp_region_asrt (by kernel_rfl) (But g0 w) (dleF g0 ix n cap A cur cur1) dleDep dleNeed dleAnc dleKill 8 [some 20, some 21, some 22, some 23, some 24, some 25, some 26, some 0] rfl rfl (by kernel_rfl) dleDep_anc (But.drewN g0 w 1) (fun j h => dleAnc_out h) (fun j h => by
      by_cases e1 : j = 8
      · subst e1; exact HR.out
      have e3 : 9 ≤ j := by omega
      match j, e3 with
      | _ + 9, _ => trivial) (fun j h => dleDep_out h) ⟨?_, ?_, ?_, ?_, ?_, ?_, ?_, ?_, trivial⟩ ?_
  · refine Step.mk (oi := _) rfl [] (fun cs b h => by cases h) (by kernel_rfl) (fun vs W hI hA => ?_)
    simp only [List.map]
    simp only [putR]
    refine SOp.val (v := .slice (some ⟨g0, 0, none⟩) n cap) (w' := W) (by kernel_rfl) (by go_simp) ⟨hI, upd_self _ _ _, fun _ _ _ _ _ h => h⟩
  · refine Step.mk (oi := _) rfl [] (fun cs b h => by cases h) (by kernel_rfl) (fun vs W hI hA => ?_)
    simp only [List.map]
    simp only [putR]
    refine SOp.val (v := .int .i64 ix) (w' := W) (by kernel_rfl) (by go_simp) ⟨hI, upd_self _ _ _, fun _ _ _ _ _ h => h⟩
  · refine Step.mk (oi := _) rfl [(20, 0), (21, 1)] (fun cs b h => by cases h) (by kernel_rfl) (fun vs W hI hA => ?_)
    simp only [List.map]
    have h0 : vs 0 = .slice (some ⟨g0, 0, none⟩) n cap := hA 0 (by decide)
    have h1 : vs 1 = .int .i64 ix := hA 1 (by decide)
    rw [h0, h1]
    simp only [putR, Act.put, List.setIfInBounds_toArray, List.set_cons_zero, List.set_cons_succ]
    refine SOp.val (v := .slice (some ⟨g0, 0, none⟩) ix cap) (w' := W) (by kernel_rfl) (by go_simp; intro h; exact absurd h (by omega)) ⟨hI, upd_self _ _ _, fun _ _ _ _ _ h => h⟩
  · refine Step.mk (oi := _) rfl [] (fun cs b h => by cases h) (by kernel_rfl) (fun vs W hI hA => ?_)
    simp only [List.map]
    simp only [putR]
    refine SOp.val (v := .slice (some ⟨g0, 0, none⟩) n cap) (w' := W) (by kernel_rfl) (by go_simp) ⟨hI, upd_self _ _ _, fun _ _ _ _ _ h => h⟩
  · refine Step.mk (oi := _) rfl [] (fun cs b h => by cases h) (by kernel_rfl) (fun vs W hI hA => ?_)
    simp only [List.map]
    simp only [putR]
    refine SOp.val (v := .int .i64 ((ix : Int) + 1)) (w' := W) (by kernel_rfl) (by go_simp) ⟨hI, upd_self _ _ _, fun _ _ _ _ _ h => h⟩
  · refine Step.mk (oi := _) rfl [(23, 3), (24, 4)] (fun cs b h => by cases h) (by kernel_rfl) (fun vs W hI hA => ?_)
    simp only [List.map]
    have h3 : vs 3 = .slice (some ⟨g0, 0, none⟩) n cap := hA 3 (by decide)
    have h4 : vs 4 = .int .i64 ((ix : Int) + 1) := hA 4 (by decide)
    rw [h3, h4]
    simp only [putR, Act.put, List.setIfInBounds_toArray, List.set_cons_zero, List.set_cons_succ]
    refine SOp.val (v := .slice (some A) (n - (ix + 1)) (cap - (ix + 1))) (w' := W) (by kernel_rfl) (by go_simp; rw [if_pos (by omega), HA.out]) ⟨hI, upd_self _ _ _, fun _ _ _ _ _ h => h⟩
  · refine Step.mk (oi := _) rfl [(22, 2), (25, 5)] (fun cs b h => by cases h) (by kernel_rfl) (fun vs W hI hA => ?_)
    simp only [List.map]
    have h2 : vs 2 = .slice (some ⟨g0, 0, none⟩) ix cap := hA 2 (by decide)
    have h5 : vs 5 = .slice (some A) (n - (ix + 1)) (cap - (ix + 1)) := hA 5 (by decide)
    rw [h2, h5]
    have hrow : Rw W g0 cur := hA 8 (by decide)
    have hr := HAPP.out W 30 hrow
    simp only [putR, Act.put, List.setIfInBounds_toArray, List.set_cons_zero, List.set_cons_succ]
    refine SOp.val (v := .slice (some ⟨g0, 0, none⟩) (ix + (n - (ix + 1))) cap) (w' := W.setRow g0 cur1) (by kernel_rfl) (by simp [execOp, resolve, invoke, builtin, Act.eval, hr, Result.andThen]) ⟨hI.trans (But.setRow g0 W cur1), ⟨upd_self _ _ _, hrow.set cur1⟩, ?_⟩
    intro j vs' a1 a2 a3 a4
    exact dleKeep [] (i := 6) (by decide) j vs' a1 a2 a3 (by rfl) a4
  · refine Step.mk (oi := _) rfl [(26, 6)] (fun cs b h => by cases h) (by kernel_rfl) (fun vs W hI hA => ?_)
    simp only [List.map]
    have h6 : vs 6 = .slice (some ⟨g0, 0, none⟩) (ix + (n - (ix + 1))) cap := (hA 6 (by decide)).1
    rw [h6]
    simp only [putR, Act.put, List.setIfInBounds_toArray, List.set_cons_zero, List.set_cons_succ]
    refine SOp.val (v := .slice (some ⟨g0, 0, none⟩) (ix + (n - (ix + 1))) cap) (w' := W) (by kernel_rfl) (by go_simp) ⟨hI, upd_self _ _ _, fun _ _ _ _ _ h => h⟩
  · intro vs V hI hφ
    have q7 : vs 7 = .slice (some ⟨g0, 0, none⟩) (ix + (n - (ix + 1))) cap := hφ 7 (fun k _ => by simp [dleKill])
    have q6 : Rw V g0 cur1 := (hφ 6 (fun k _ => by simp [dleKill])).2
    clear hφ
    simp only [putAll, Act.put, List.setIfInBounds_toArray, List.set_cons_zero, List.set_cons_succ]
    rw [q7, e1]
    have HV := Lib.hid hI
    have HRV := Lib.hid q6
    have hone : n - (n - 1) = 1 := by omega
    have hfit : (n - 1) * 2 + 2 ≤ cur1.size := by have := HS1.out; omega
    have hcl : ∀ ty, (Builtin.clear_ #[30] ty #[.slice (some ⟨g0, (n - 1) * 2, none⟩) (n - (n - 1)) (cap - (n - 1))]).run Tryz.prog V = .ok (.tuple #[]) (V.setRow g0 (putAt cur1 ((n - 1) * 2) [.string ⟨#[]⟩, .string ⟨#[]⟩])) := fun ty => by rw [hone]; exact clear2 V ty g0 ((n - 1) * 2) (cap - (n - 1)) cur1 q6 hfit
    clear hI q6 q7 hone
    go_wp2
    go_ret
    exact ⟨rfl, HV.out.trans (But.setRow g0 V _), _, HRV.out.set _, by rw [putAt_size (by have := HS1.out; simp; omega)]; exact HS1.out, by rw [hnews]; exact HTK.out⟩
end Go.Proofs.YtjakdbahopbggaaGreatDoor
end
/- What leaf's search, Find and Del return on rising entries, and slices.Clone. Conditions: at most 20000 entries. -/
section
namespace Go.Proofs.YtjakdbahopbggaaGreatDoor
open Go.RowKit Go.Ow Go.Wi

theorem search_any (o : Option Addr) (c : Nat) (l : List En) (key : List UInt8) (w : World) (h : EnA w o l) (hr : Rise l) (hn : l.length ≤ 100000) :
    Calls Tryz.prog 30 #[.slice o l.length c, strL' key] w fun e w' => e = .returned (.tuple #[.int .i64 (lbN l key : Nat), .bool (hasK l key)]) ∧ Below w.heap.size w w' := by
  have BS := Lib.hid (bs_search1 o c l key w h hr hn)
  clear h hr
  go_enter Tryz.func30, Tryz.ntmps30
  go_wp2_with (go_at_call 45; with_reducible refine BS.out.mono ?_; rintro e w1 ⟨rfl, hb⟩)
  go_ret2
  exact ⟨rfl, hb⟩
/-- what Find answers -/
theorem find_any (o : Option Addr) (c : Nat) (l : List En) (key : List UInt8) (w : World) (h : EnA w o l) (hr : Rise l) (hn : l.length ≤ 100000) :
    Calls Tryz.prog 10 #[.slice o l.length c, strL' key] w fun e w' => e = .returned (.tuple #[strL' ((getV l key).getD []), .bool (hasK l key)]) ∧ Below w.heap.size w w' := by
  have SE := search_any o c l key w h hr hn
  have HL := Lib.hid (hr.lb key)
  cases hk : hasK l key with
  | false =>
    have hg : getV l key = none := by
      unfold hasK at hk
      cases hq : getV l key with
      | none => rfl
      | some v => rw [hq] at hk; cases hk
    rw [hg]
    rw [hk] at SE
    have SE := Lib.hid SE
    clear h hr hk hg
    go_enter Tryz.func10, Tryz.ntmps10
    go_wp2_with (go_at_call 30; with_reducible refine SE.out.mono ?_; rintro e w1 ⟨rfl, hb⟩)
    go_ret2
    exact ⟨rfl, hb⟩
  | true =>
    obtain ⟨hpl, hpk⟩ := HL.out.2.2.2.1 hk
    obtain ⟨y, hy⟩ := hasK_iff.1 hk
    have hmem := getV_of_mem hr (List.getElem_mem hpl)
    rw [hpk, hy] at hmem
    obtain ⟨x, hx⟩ : ∃ x, l[lbN l key]? = some x := ⟨_, List.getElem?_eq_getElem hpl⟩
    have hxe : x.v = y := by
      rw [List.getElem?_eq_getElem hpl] at hx
      simp only [Option.some.injEq] at hx
      rw [← hx]
      simpa using hmem.symm
    rw [hy]
    rw [hk] at SE
    have SE := Lib.hid SE
    have HE := Lib.hid h
    obtain ⟨p, hp⟩ : ∃ p, lbN l key = p := ⟨_, rfl⟩
    rw [hp] at SE hpl hx
    have HX := Lib.hid hx
    obtain ⟨b, off, rfl, hb0, c0, c1⟩ := h p x hx
    have j1 : (p : Int) < (l.length : Int) := by omega
    have j2 : (0 : Int) ≤ (p : Int) := by omega
    clear h hr hk hpk hy hmem hp hx HL c0 c1
    go_enter Tryz.func10, Tryz.ntmps10
    go_upto_region 4 with (go_at_call 30; with_reducible refine SE.out.mono ?_; rintro e w1 ⟨rfl, hb⟩)
    obtain ⟨b', off', e1, hb', d0, d1⟩ := (HE.out.below hb) p x HX.out
    simp only [Option.some.injEq, Addr.mk.injEq, and_true] at e1
    obtain ⟨rfl, rfl⟩ := e1
    go_wp2
    go_ret2
    exact ⟨by rw [← hxe]; rfl, hb⟩
theorem empty_own (w : World) : (w.alloc (.cells #[] 42)).ownsRow w.heap.size 42 2 (.slice (some ⟨w.heap.size, 0, none⟩) 0 0) 0 (([] : List En).flatMap enC) :=
  ⟨rfl, .inr ⟨w.heap.size, 0, #[], rfl, Nat.le_refl _, heap_alloc_new w _, Nat.le_refl _, Nat.zero_le _, rfl, rfl⟩⟩
set_option maxRecDepth 100000 in
theorem clone_any (o : Option Addr) (c n : Nat) (l : List En) (w : World) (h : EnA w o l) (hn : l.length = n) (hm : n ≤ 100000) (hc : o = none → c = 0) :
    Calls Tryz.prog 31 #[.slice o n c] w fun e w' => ∃ u, e = .returned u ∧ w'.ownsRow w.heap.size 42 2 u n (l.flatMap enC) ∧ Below w.heap.size w w' := by
  have HE := Lib.hid h
  have q22 : ∀ (w : World) (a : Option Addr) (n c n' c' : Nat), (binOp .eql 30 (.slice a n c) (.slice none n' c')).run Tryz.prog w = .ok (.bool a.isNone) w := fun w a n c n' c' => Lib.run_eql_slice_nil w _ _ a n c n' c' Tryz.underlying30
  cases o with
  | none =>
    have m0 : l = [] := by
      cases l with
      | nil => rfl
      | cons x m => obtain ⟨b, off, e, _⟩ := h 0 x rfl; cases e
    subst m0
    obtain rfl : 0 = n := hn
    obtain rfl := hc rfl
    clear h hc
    go_enter Tryz.func31, Tryz.ntmps31
    go_wp2
    go_ret
    exact ⟨_, rfl, ⟨rfl, .inl ⟨rfl, rfl⟩⟩, Below.refl _ _⟩
  | some a =>
    have HW := Lib.hid (empty_own w)
    have hb0 : Below w.heap.size w (w.alloc (.cells #[] 42)) := (Below.refl _ _).alloc (Nat.le_refl _) _
    have HE2 := Lib.hid (HE.out.below hb0)
    have HB0 := Lib.hid hb0
    have hbd : 0 + n ≤ 1000000 := by omega
    have hbs : w.heap.size ≤ (w.alloc (.cells #[] 42)).heap.size := by simp
    clear h hc hb0
    go_enter Tryz.func31, Tryz.ntmps31
    go_wp2_with (at_builtin; refine wpList_appen _ rfl (.tmp 5) (.tmp 6) rfl rfl HW.out (some a) l n c rfl hn HE2.out hbd hbs ?_)
    intro v' w4 ho4 hg4
    have HO := Lib.hid ho4
    have HB := Lib.hid (HB0.out.grown hg4 hbs (fun g hg => (ownC_blk HW.out g hg).1))
    clear ho4 hg4
    go_wp2
    go_ret
    exact ⟨_, rfl, by simpa using HO.out, HB.out⟩
theorem enC_take : ∀ (l : List En) (p : Nat), (l.flatMap enC).take (p * 2) = (l.take p).flatMap enC
  | [], p => by simp
  | a :: l, 0 => by simp
  | a :: l, p + 1 => by
    rw [List.flatMap_cons, List.take_succ_cons, List.flatMap_cons, ← enC_take l p, show (p + 1) * 2 = p * 2 + 1 + 1 by omega]
    rfl
theorem enC_drop : ∀ (l : List En) (p : Nat), (l.flatMap enC).drop (p * 2) = (l.drop p).flatMap enC
  | [], p => by simp
  | a :: l, 0 => by simp
  | a :: l, p + 1 => by
    rw [List.flatMap_cons, List.drop_succ_cons, ← enC_drop l p, show (p + 1) * 2 = p * 2 + 1 + 1 by omega]
    rfl
set_option maxRecDepth 100000 in
theorem del_any (o : Option Addr) (c : Nat) (l : List En) (key : List UInt8) (w : World) (h : EnA w o l) (hr : Rise l) (hn : l.length ≤ 20000) (hc : o = none → c = 0) :
    Calls Tryz.prog 9 #[.slice o l.length c, strL' key] w fun e w' => ∃ u, e = .returned (.tuple #[u, .bool (hasK l key)]) ∧ EnO w' w.heap.size u (delL l key) ∧ Below w.heap.size w w' := by
  have SE := Lib.hid (search_any o c l key w h hr (by omega))
  have CL := fun (W : World) (hb : Below w.heap.size w W) => clone_any o c l.length l W (h.below hb) rfl (by omega) hc
  have CL := Lib.hid CL
  have HL := Lib.hid (hr.lb key)
  obtain ⟨p, hp⟩ : ∃ p, lbN l key = p := ⟨_, rfl⟩
  obtain ⟨q, hq⟩ : ∃ q, hasK l key = q := ⟨_, rfl⟩
  have hdel : delL l key = if q = true then l.take p ++ l.drop (p + 1) else l := by unfold delL; rw [hp, hq]
  rw [hdel]
  rw [hp, hq] at SE HL
  rw [hq]
  clear h hr hc hp hq hdel
  cases q with
  | false =>
    go_enter Tryz.func9, Tryz.ntmps9
    go_wp2_with (first
      | (go_at_call 30; with_reducible refine SE.out.mono ?_; rintro e w1 ⟨rfl, hb⟩)
      | (go_at_call 31; with_reducible refine (CL.out w1 hb).mono ?_; rintro e w2 ⟨u, rfl, ho2, hb2⟩))
    go_ret2
    exact ⟨_, rfl, ownC_base ho2 hb.size, hb.trans (hb2.mono hb.size)⟩
  | true =>
    obtain ⟨hpl, _⟩ := HL.out.2.2.2.1 rfl
    go_enter Tryz.func9, Tryz.ntmps9
    go_upto_region 3 with (first
      | (go_at_call 30; with_reducible refine SE.out.mono ?_; rintro e w1 ⟨rfl, hb⟩)
      | (go_at_call 31; with_reducible refine (CL.out w1 hb).mono ?_; rintro e w2 ⟨u, rfl, ho2, hb2⟩))
    have HB2 := Lib.hid (hb.trans (hb2.mono hb.size))
    have hsz := hb.size
    rcases ho2 with ⟨hlen, ⟨rfl, h0⟩ | ⟨g, cap, cur, rfl, hbg, hg, hncap, hcm, hcs, hct⟩⟩
    · omega
    have hdr := delete_row g p l.length cap cur w2 hg hpl hncap hcs hcm (by rw [hct]; exact enC_one l)
    rw [hct, enC_drop] at hdr
    have hct2 : cur.toList.take (p * 2) = (l.take p).flatMap enC := by
      rw [← enC_take, ← hct, List.take_take, Nat.min_eq_left (by omega)]
    rw [hct2] at hdr
    have HD := Lib.hid hdr
    have hcap1 : l.length - 1 ≤ cap := by omega
    have hbg2 : w.heap.size ≤ g := by omega
    have hgs : g ≤ w2.heap.size := Nat.le_of_lt (Array.getElem?_eq_some_iff.1 hg).1
    clear hdr hct2 hct hg hlen hb hb2
    go_wp2_with (go_at_call 32; with_reducible refine HD.out.mono ?_; rintro e w3 ⟨rfl, hb3, cur2, hr2, hs2, ht2⟩)
    go_ret2
    refine ⟨_, rfl, ?_, HB2.out.trans (hb3.below hbg2 hgs)⟩
    have hl2 : (l.take p ++ l.drop (p + 1)).length = l.length - 1 := by simp; omega
    have hcells : (l.take p ++ l.drop (p + 1)).flatMap enC = cur2.toList.take ((l.length - 1) * 2) := by rw [ht2, List.flatMap_append]
    simp only
    unfold EnO
    rw [hl2]
    exact ⟨by rw [enC_len, hl2], .inr ⟨g, cap, cur2, rfl, hbg2, hr2, hcap1, hcm, hs2, hcells.symm⟩⟩
end Go.Proofs.YtjakdbahopbggaaGreatDoor
end
