/- What leaf.Put returns on rising entries. Conditions: at most 20000 entries. -/
import Derived.Test.YtjakdbahopbggaaGreatDoorZSv15
import Derived.Test.YtjakdbahopbggaaGreatDoorZK31
import Derived.Test.YtjakdbahopbggaaGreatDoorZK38
section
namespace Go.Proofs.YtjakdbahopbggaaGreatDoor
open Go.RowKit Go.Ow Go.Wi

theorem enC_set : ∀ (l : List En) (p : Nat) (x : En) (v : List UInt8), l[p]? = some x → (l.flatMap enC).set (p * 2 + 1) (strL' v) = (l.set p ⟨x.k, v⟩).flatMap enC
  | [], p, x, v, h => by simp at h
  | a :: l, 0, x, v, h => by
    simp only [List.getElem?_cons_zero, Option.some.injEq] at h
    subst h
    rfl
  | a :: l, p + 1, x, v, h => by
    have := enC_set l p x v (by simpa using h)
    rw [List.flatMap_cons, List.set_cons_succ, List.flatMap_cons, ← this, show (p + 1) * 2 + 1 = p * 2 + 1 + 1 + 1 by omega]
    rfl
theorem insert_any (B : Nat) (u : Value) (n p : Nat) (l : List En) (vb : Nat) (e : En) (w : World) (hu : w.ownsRow B 42 2 u n (l.flatMap enC)) (hl : l.length = n) (hp : p ≤ n) (hB : B ≤ w.heap.size) (hn : n ≤ 20000) (hv : w.heap[vb]? = some (.cells #[strL' e.k, strL' e.v] 42 (0, 0))) (hne : ∀ g, u.ownBlock = some g → vb ≠ g) :
    Calls Tryz.prog 33 #[u, .int .i64 p, .slice (some ⟨vb, 0, none⟩) 1 1] w fun r w' => ∃ u', r = .returned u' ∧ EnO w' B u' (l.take p ++ e :: l.drop p) ∧ Below B w w' := by
  have hlen : (l.take p ++ e :: l.drop p).length = n + 1 := by simp; omega
  have hcell : (l.take p ++ e :: l.drop p).flatMap enC = (l.flatMap enC).take (p * 2) ++ enC e ++ (l.flatMap enC).drop (p * 2) := by
    rw [enC_take, enC_drop, List.flatMap_append, List.flatMap_cons, List.append_assoc]
  by_cases hpn : p = n
  · subst hpn
    refine (insert_end B u p l vb e w hu hl hB hn hv).mono ?_
    rintro r w' ⟨u', h1, h2, h3⟩
    refine ⟨u', h1, ?_, h3⟩
    rw [List.take_of_length_le (by omega), List.drop_of_length_le (by omega)]
    exact h2
  · rcases hu.2 with ⟨rfl, h0⟩ | ⟨g, cap, cur, rfl, hbg, hg, hncap, hcm, hcs, hct⟩
    · omega
    · have h1 : ∀ u ∈ cur.toList.take (n * 2), u.oneCell' = true := by rw [hct]; exact enC_one l
      have hct2 : cur.toList.take (p * 2) = (l.flatMap enC).take (p * 2) := by rw [← hct, List.take_take, Nat.min_eq_left (by omega)]
      by_cases hroom : n + 1 ≤ cap
      · refine (insert_room g p n cap cur vb e w hg (by omega) hcs hcm hroom hn h1 hv (hne g rfl)).mono ?_
        rintro r w' ⟨h1, h2, cur2, h3, h4, h5⟩
        rw [hct, hct2, ← hcell] at h5
        refine ⟨_, h1, ?_, h2.below hbg (Nat.le_of_lt (Rw.lt hg))⟩
        unfold EnO
        rw [hlen]
        exact ⟨by rw [enC_len, hlen], .inr ⟨g, cap, cur2, rfl, hbg, h3, hroom, hcm, h4, h5⟩⟩
      · refine (insert_grow g p n cap cur vb e w hg (by omega) hncap hcs hcm (by omega) hn h1 hv).mono ?_
        rintro r w' ⟨u', h1, h2, h3⟩
        rw [hct, hct2, ← hcell] at h2
        refine ⟨u', h1, ?_, h3.mono hB⟩
        unfold EnO
        rw [hlen]
        exact ownC_base h2 hB
set_option maxRecDepth 100000 in
theorem put_any (o : Option Addr) (c : Nat) (l : List En) (key val : List UInt8) (w : World) (h : EnA w o l) (hr : Rise l) (hn : l.length ≤ 20000) (hc : o = none → c = 0) :
    Calls Tryz.prog 11 #[.slice o l.length c, strL' key, strL' val] w fun e w' => ∃ u, e = .returned u ∧ EnO w' w.heap.size u (putL l key val) ∧ Below w.heap.size w w' := by
  have SE := Lib.hid (search_any o c l key w h hr (by omega))
  have CL := fun (W : World) (hb : Below w.heap.size w W) => clone_any o c l.length l W (h.below hb) rfl (by omega) hc
  have CL := Lib.hid CL
  have HL := Lib.hid (hr.lb key)
  obtain ⟨p, hp⟩ : ∃ p, lbN l key = p := ⟨_, rfl⟩
  obtain ⟨q, hq⟩ : ∃ q, hasK l key = q := ⟨_, rfl⟩
  have hput : putL l key val = if q = true then l.set p ⟨key, val⟩ else l.take p ++ ⟨key, val⟩ :: l.drop p := by unfold putL; rw [hp, hq]
  rw [hput]
  rw [hp, hq] at SE HL
  clear h hr hc hp hq hput
  cases q with
  | false =>
    have hpl := HL.out.1
    go_enter Tryz.func11, Tryz.ntmps11
    go_upto_region 6 with (first
      | (go_at_call 30; with_reducible refine SE.out.mono ?_; rintro e w1 ⟨rfl, hb⟩)
      | (go_at_call 31; with_reducible refine (CL.out w1 hb).mono ?_; rintro e w2 ⟨u, rfl, ho2, hb2⟩))
    have hbb := hb.trans (hb2.mono hb.size)
    have HB2 := Lib.hid (hbb.alloc hbb.size (.cells #[strL' key, strL' val] 42))
    have hown := ownC_al ho2 (.cells #[strL' key, strL' val] 42)
    have IN := Lib.hid (insert_any w.heap.size u l.length p l w2.heap.size ⟨key, val⟩ (w2.alloc (.cells #[strL' key, strL' val] 42)) (ownC_base hown hb.size) rfl hpl HB2.out.size hn (heap_alloc_new w2 _) (fun g hg => by have := (ownC_blk ho2 g hg).2; omega))
    clear hown ho2 hbb hb2 hb
    go_wp2_with (go_at_call 33; with_reducible refine IN.out.mono ?_; rintro e w3 ⟨u3, rfl, ho3, hb3⟩)
    go_ret
    exact ⟨_, rfl, ho3, HB2.out.trans hb3⟩
  | true =>
    obtain ⟨hpl, hpk⟩ := HL.out.2.2.2.1 rfl
    obtain ⟨x, hx⟩ : ∃ x, l[p]? = some x := ⟨_, List.getElem?_eq_getElem hpl⟩
    have hxk : x.k = key := by
      rw [List.getElem?_eq_getElem hpl] at hx
      simp only [Option.some.injEq] at hx
      rw [← hx]
      exact hpk
    have HX := Lib.hid hx
    have j1 : (p : Int) < (l.length : Int) := by omega
    have j2 : (0 : Int) ≤ (p : Int) := by omega
    clear hx hpk
    go_enter Tryz.func11, Tryz.ntmps11
    go_upto_region 3 with (first
      | (go_at_call 30; with_reducible refine SE.out.mono ?_; rintro e w1 ⟨rfl, hb⟩)
      | (go_at_call 31; with_reducible refine (CL.out w1 hb).mono ?_; rintro e w2 ⟨u, rfl, ho2, hb2⟩))
    have HB2 := Lib.hid (hb.trans (hb2.mono hb.size))
    have hsz := hb.size
    rcases ho2 with ⟨hlen, ⟨rfl, h0⟩ | ⟨g, cap, cur, rfl, hbg, hg, hncap, hcm, hcs, hct⟩⟩
    · omega
    have hbg2 : w.heap.size ≤ g := by omega
    have hgs : g ≤ w2.heap.size := Nat.le_of_lt (Array.getElem?_eq_some_iff.1 hg).1
    have hin : p * 2 + 1 < cur.size := by omega
    have k0 : w2.cell? ⟨g, p * 2 + 1, none⟩ = some (cur[p * 2 + 1]'hin) := by rw [cell_in hg, Array.getElem?_eq_getElem hin]
    have f0 : w2.frozen? ⟨g, p * 2 + 1, none⟩ = false := froz_in hg _
    have hset := setCell_eq_setRow w2 g (p * 2 + 1) cur 42 (0, 0) (strL' val) hg
    have HSET := Lib.hid hset
    have HG := Lib.hid hg
    have HCT := Lib.hid hct
    clear hset hg hct hlen hb hb2
    go_wp2
    go_ret
    refine ⟨_, rfl, ?_, HB2.out.trans ((But.setCell g w2 (p * 2 + 1) (strL' val)).below hbg2 hgs)⟩
    have hl2 : (l.set p ⟨key, val⟩).length = l.length := List.length_set
    have hcells : (cur.setIfInBounds (p * 2 + 1) (strL' val)).toList.take (l.length * 2) = (l.set p ⟨key, val⟩).flatMap enC := by
      rw [Array.toList_setIfInBounds, List.take_set, HCT.out, enC_set l p x val HX.out, hxk]
    simp only
    unfold EnO
    rw [hl2, HSET.out]
    exact ⟨by rw [enC_len, hl2], .inr ⟨g, cap, _, rfl, hbg2, setRow_heap w2 g cur _ _ (0, 0) HG.out, hncap, hcm, by simpa using hcs, hcells⟩⟩
end Go.Proofs.YtjakdbahopbggaaGreatDoor
end
/- What the law's told and callboardref06.Entries return. Conditions: at most 20000 entries. -/
section
namespace Go.Proofs.YtjakdbahopbggaaGreatDoor
open Go.RowKit Go.Ow Go.Wi

theorem own_ena {w : World} {B : Nat} {e : TypeId} {v : Value} {n : Nat} {l : List En} (h : w.ownsRow B e 2 v n (l.flatMap enC)) (hl : l.length = n) : ∃ o c, v = .slice o n c ∧ n ≤ c ∧ EnA w o l := by
  subst hl
  rcases h.2 with ⟨rfl, h0⟩ | ⟨g, cap, cur, rfl, hb, hg, hn, hm, hs, ht⟩
  · refine ⟨none, 0, by rw [h0], by omega, fun k e hk => ?_⟩
    rw [List.eq_nil_of_length_eq_zero h0] at hk
    simp at hk
  · refine ⟨_, cap, rfl, hn, fun k e hk => ⟨g, 0, rfl, (Array.getElem?_eq_some_iff.1 hg).1, ?_⟩⟩
    obtain ⟨a, b⟩ := enC_at l k e hk
    have hlt : k < l.length := (List.getElem?_eq_some_iff.1 hk).1
    rw [← ht, List.getElem?_take] at a b
    rw [if_pos (by omega)] at a b
    rw [cell_of_row w g _ cur _ (0, 0) hg, cell_of_row w g _ cur _ (0, 0) hg, Nat.zero_add, ← Array.getElem?_toList, ← Array.getElem?_toList]
    exact ⟨a, b⟩
theorem info_entry6 : (Tryz.prog.info? 84).map (fun i => (i.zero, i.size, i.bytes)) = some (some (.agg #[.string ⟨#[]⟩, .string ⟨#[]⟩]), 2, 32) := by kernel_rfl
set_option maxRecDepth 100000 in
set_option maxHeartbeats 4000000 in
theorem told_any (o : Option Addr) (c : Nat) (l : List En) (w : World) (h : EnA w o l) (hm : l.length ≤ 20000) :
    Calls Tryz.prog 13 #[.slice o l.length c] w fun e w' => ∃ u, e = .returned u ∧ w'.ownsRow w.heap.size 84 2 u l.length (l.flatMap enC) ∧ Below w.heap.size w w' := by
  have HA := Lib.hid h
  clear h
  obtain ⟨i0, hi, hz0, hz1, hz2⟩ := info_parts info_entry6
  go_enter Tryz.func13, Tryz.ntmps13
  go_wp2
  go_loopg [3, 4] l.length (fun g V N wr => ∃ j : Nat, j + g = l.length ∧ N = .int .i64 j ∧ Hid (wr.ownsRow w.heap.size 84 2 V j ((l.take j).flatMap enC)) ∧ Hid (Below w.heap.size w wr))
  case atStart => exact ⟨0, by omega, rfl, Lib.hid ⟨rfl, .inl ⟨rfl, rfl⟩⟩, Lib.hid (Below.refl _ _)⟩
  case round =>
    obtain ⟨j, hj, rfl, HO, HB⟩ := hrel
    by_cases hlt : j < l.length
    · obtain ⟨x, hx⟩ : ∃ x, l[j]? = some x := ⟨_, List.getElem?_eq_getElem hlt⟩
      obtain ⟨b, off, rfl, hb, c0, c1⟩ := (HA.out.below HB.out) j x hx
      have i1 : (j : Int) < (l.length : Int) := by omega
      have i2 : (0 : Int) ≤ (j : Int) := by omega
      have htk : l.take (j + 1) = l.take j ++ [x] := by rw [List.take_add_one, hx]; rfl
      have HTK := Lib.hid htk
      have hj5 : j ≤ 100000 := by omega
      have hsz := HB.out.size
      clear hx htk
      go_wp2_with (at_builtin; refine wpList_appown _ rfl (.tmp 11) (.tmp 16) 45 rfl i0 _ 2 32 Tryz.underlying45 hi hz0 hz1 hz2 rfl (by decide) rfl (ownC_al HO.out _) wr.heap.size 1 #[strL' x.k, strL' x.v] 84 rfl (heap_alloc_new _ _) rfl ?d1 hj5 (by decide) ?d2 ?_)
      case d1 => exact ⟨rfl, rfl⟩
      case d2 => simp; omega
      intro v' w4 ho4 hg4
      have HO4 : Hid (w4.ownsRow w.heap.size 84 2 v' (j + 1) ((l.take (j + 1)).flatMap enC)) := Lib.hid (by rw [HTK.out, List.flatMap_append]; simpa [enC] using ho4)
      have HB4 : Hid (Below w.heap.size w w4) := Lib.hid ((HB.out.alloc hsz _).grown hg4 (by simp; omega) (fun g hg => (ownC_blk HO.out g hg).1))
      clear ho4 hg4
      go_wp2
      go_roundg (l.length - (j + 1))
      case measure => omega
      case rel => exact ⟨j + 1, by omega, by go_num, HO4, HB4⟩
    · obtain rfl : j = l.length := by omega
      have ho : wr.ownsRow w.heap.size 84 2 u3 l.length (l.flatMap enC) := by have := HO.out; rwa [List.take_length] at this
      have HO' := Lib.hid ho
      clear ho
      go_wp2
      go_ret
      exact ⟨_, rfl, HO'.out, HB.out⟩
set_option maxHeartbeats 4000000 in
theorem entries_same (o1 o2 : Option Addr) (c1 c2 : Nat) (l : List En) (w : World) (h1 : EnA w o1 l) (h2 : EnA w o2 l) (hm : l.length ≤ 20000) :
    Calls Tryz.prog 12 #[.slice o1 l.length c1, .slice o2 l.length c2] w fun e w' => e = .returned (.bool true) ∧ Below w.heap.size w w' := by
  have H1 := Lib.hid h1
  have H2 := Lib.hid h2
  clear h1 h2
  go_enter Tryz.func12, Tryz.ntmps12
  go_wp2
  go_loopg [5] l.length (fun g N wr => ∃ j : Nat, j + g = l.length ∧ N = .int .i64 j ∧ Hid (Below w.heap.size w wr))
  case atStart => exact ⟨0, by omega, rfl, Lib.hid (Below.refl _ _)⟩
  case round =>
    obtain ⟨j, hj, rfl, HB⟩ := hrel
    by_cases hlt : j < l.length
    · obtain ⟨x, hx⟩ : ∃ x, l[j]? = some x := ⟨_, List.getElem?_eq_getElem hlt⟩
      obtain ⟨b, off, rfl, hb, d0, d1⟩ := (H1.out.below HB.out) j x hx
      obtain ⟨b', off', rfl, hb', e0, e1⟩ := (H2.out.below HB.out) j x hx
      have i1 : (j : Int) < (l.length : Int) := by omega
      have i2 : (0 : Int) ≤ (j : Int) := by omega
      clear hx
      go_wp2
      go_quiet (fail)
      go_wp2
      go_roundg (l.length - (j + 1))
      case measure => omega
      case rel => exact ⟨j + 1, by omega, by go_num, Lib.hid (HB.out.trans (Below.drewN _ _))⟩
    · obtain rfl : j = l.length := by omega
      go_wp2
      go_ret
      exact ⟨rfl, HB.out⟩
end Go.Proofs.YtjakdbahopbggaaGreatDoor
end
