/- What save.Changes returns: what is to be put, and taken away. Conditions: as many elements as large lets by. -/
import Derived.Test.YtjakdbahopbggaaGreatDoorZSv9
import Derived.Test.YtjakdbahopbggaaGreatDoorZSv10
import Derived.Test.YtjakdbahopbggaaGreatDoorZK31
import Derived.Test.YtjakdbahopbggaaGreatDoorZInv2
section
namespace Go.Proofs.YtjakdbahopbggaaGreatDoor
open Go.RowKit Go.Ow Go.Wi

/-- keys to be read -/
def KyA (w : World) (o : Option Addr) (l : List (List UInt8)) : Prop := ∀ k s, l[k]? = some s → ∃ b off, o = some ⟨b, off, none⟩ ∧ b < w.heap.size ∧ w.cell? ⟨b, off + k, none⟩ = some (strL' s)
theorem KyA.below {w wr : World} {o : Option Addr} {l : List (List UInt8)} (h : KyA w o l) (hb : Below w.heap.size w wr) : KyA wr o l := fun k e hk => by
  obtain ⟨b, off, h1, h2, h3⟩ := h k e hk
  exact ⟨b, off, h1, Nat.lt_of_lt_of_le h2 hb.size, (hb.cell (p := Addr.mk b (off + k) Option.none) h2).trans h3⟩
def KyO (w : World) (B : Nat) (v : Value) (l : List (List UInt8)) : Prop := w.ownsRow B 9 1 v l.length (l.map strL')
theorem KyO.kya {w : World} {B : Nat} {v : Value} {l : List (List UInt8)} (h : KyO w B v l) : ∃ o c, v = .slice o l.length c ∧ l.length ≤ c ∧ KyA w o l := by
  rcases h.2 with ⟨rfl, h0⟩ | ⟨g, cap, cur, rfl, hb, hg, hn, hm, hs, ht⟩
  · refine ⟨none, 0, by rw [h0], by omega, fun k e hk => ?_⟩
    rw [List.eq_nil_of_length_eq_zero h0] at hk
    simp at hk
  · refine ⟨_, cap, rfl, hn, fun k e hk => ⟨g, 0, rfl, (Array.getElem?_eq_some_iff.1 hg).1, ?_⟩⟩
    have a : (l.map strL')[k]? = some (strL' e) := by rw [List.getElem?_map, hk]; rfl
    have hlt : k < l.length := (List.getElem?_eq_some_iff.1 hk).1
    rw [← ht, List.getElem?_take, if_pos (by omega)] at a
    rw [cell_of_row w g _ cur _ (0, 0) hg, Nat.zero_add, ← Array.getElem?_toList]
    exact a
theorem KyO.below {w w' : World} {B : Nat} {v : Value} {l : List (List UInt8)} (h : KyO w B v l) (hb : Below w.heap.size w w') : KyO w' B v l := ownC_mono h hb
theorem info_string : (Tryz.prog.info? 9).map (fun i => (i.zero, i.size, i.bytes)) = some (some (.string ⟨#[]⟩), 1, 16) := by kernel_rfl
/-- what a call of Keys comes to -/
def KR (P : Prop) (l : List En) (W : World) (e : Ending) (w' : World) : Prop := ∃ o n c b, e = .returned (.tuple #[.slice o n c, .int .i64 (cond b 0 4)]) ∧ n ≤ c ∧ (b = true ↔ P) ∧ EnO w' W.heap.size (.slice o n c) (cond b l []) ∧ Below W.heap.size W w'
theorem KR.out {P : Prop} {l : List En} {W : World} {e : Ending} {w' : World} (h : KR P l W e w') : ∃ o n c b, e = .returned (.tuple #[.slice o n c, .int .i64 (cond b 0 4)]) ∧ n ≤ c ∧ (b = true ↔ P) ∧ EnO w' W.heap.size (.slice o n c) (cond b l []) ∧ Below W.heap.size W w' := h
theorem keys_kr {A : Nat → Nat × Nat} (s : Sm) (w : World) (hG : Gl A w) (h : s.at w) (hf : s.fit) (hs : s.small) : Calls Tryz.prog 7 #[.agg s.cs] w (KR (KeysOk s.st) (keysL s.st) w) := by
  refine (keys_any s w hG h hf hs).mono ?_
  rintro e w' ⟨⟨hP, u, rfl, ho⟩ | ⟨hP, rfl⟩, hb⟩
  · obtain ⟨o, c, rfl, hc, _⟩ := ho.ena
    exact ⟨o, _, c, true, rfl, hc, ⟨fun _ => hP, fun _ => rfl⟩, ho, hb⟩
  · exact ⟨none, 0, 0, false, rfl, Nat.le_refl _, ⟨(fun h => nomatch h), fun h => absurd h hP⟩, ⟨rfl, .inl ⟨rfl, rfl⟩⟩, hb⟩
/-- what a call of Changes comes to -/
def CR (P : Prop) (puts : List En) (dels : List (List UInt8)) (W : World) (e : Ending) (w' : World) : Prop :=
  ((P ∧ ∃ o c o' c', e = .returned (.tuple #[.slice o puts.length c, .slice o' dels.length c', .int .i64 0]) ∧ EnA w' o puts ∧ KyA w' o' dels) ∨ (¬ P ∧ e = .returned (.tuple #[.slice none 0 0, .slice none 0 0, .int .i64 4]))) ∧ Below W.heap.size W w'

set_option maxRecDepth 100000 in
set_option maxHeartbeats 16000000 in
theorem changes_walk (a b : Sm) (w : World) (PA PB : Prop) (X Y : List En) (hX : PA → Rise X ∧ X.length ≤ 5000) (hY : PB → Rise Y ∧ Y.length ≤ 5000)
    (KA : ∀ W, Below w.heap.size w W → Calls Tryz.prog 7 #[.agg a.cs] W (KR PA X W))
    (KB : ∀ W, Below w.heap.size w W → Calls Tryz.prog 7 #[.agg b.cs] W (KR PB Y W)) :
    Calls Tryz.prog 8 #[.agg a.cs, .agg b.cs] w (CR (PA ∧ PB) (newL Y X) ((goneL X Y).map (·.k)) w) := by
  obtain ⟨PP, hPP⟩ : ∃ P, P ↔ (PA ∧ PB) := ⟨_, Iff.rfl⟩
  have hgoal : CR (PA ∧ PB) (newL Y X) ((goneL X Y).map (·.k)) w = CR PP (newL Y X) ((goneL X Y).map (·.k)) w := by rw [propext hPP]
  rw [hgoal]
  have HPP := Lib.hid hPP
  have HX := Lib.hid hX
  have HY := Lib.hid hY
  have KA := Lib.hid KA
  have KB := Lib.hid KB
  obtain ⟨i0, hi, hz0, hz1, hz2⟩ := info_parts info_string
  have hb0 : Below w.heap.size w ((w.alloc (.cells a.cs 27)).alloc (.cells b.cs 27)) := ((Below.refl _ _).alloc (Nat.le_refl _) _).alloc (by simp) _
  have HB0 := Lib.hid hb0
  have hbox : ∀ W, Below ((w.alloc (.cells a.cs 27)).alloc (.cells b.cs 27)).heap.size ((w.alloc (.cells a.cs 27)).alloc (.cells b.cs 27)) W → ∀ r u, b.cs[r]? = some u → W.cell? ⟨w.heap.size + 1, r, none⟩ = some u := fun W hb r u hr => by
    have hlt : w.heap.size + 1 < ((w.alloc (.cells a.cs 27)).alloc (.cells b.cs 27)).heap.size := by simp
    have h2 : ((w.alloc (.cells a.cs 27)).alloc (.cells b.cs 27)).heap[w.heap.size + 1]? = some (.cells b.cs 27 (0, 0)) := by
      have := heap_alloc_new (w.alloc (.cells a.cs 27)) (.cells b.cs 27)
      simpa using this
    rw [hb.cell (p := ⟨w.heap.size + 1, r, none⟩) hlt, cell_of_row _ _ r _ _ (0, 0) h2]
    exact hr
  have HBX := Lib.hid hbox
  have A0 := Lib.hid (KA.out _ hb0)
  clear hPP hX hY hb0 hbox hgoal
  go_enter Tryz.func8, Tryz.ntmps8
  go_upto_region 2 with (go_at_call 7; with_reducible refine A0.out.mono ?_; rintro e w1 hK; obtain ⟨o1, n1, c1, b1, rfl, hc1, hp1, ho1, hb1⟩ := hK.out)
  clear A0
  have hb1' := HB0.out.trans (hb1.mono HB0.out.size)
  have HB1 := Lib.hid hb1'
  have HS1 := Lib.hid hb1
  have HP1 := Lib.hid hp1
  have HO1 := Lib.hid ho1
  clear hb1 hp1 ho1 hb1'
  cases b1
  case false =>
    have HN : Hid (¬ PP) := Lib.hid (fun h => absurd (HP1.out.2 (HPP.out.1 h).1) (by decide))
    try simp only [cond]
    go_wp2
    go_ret3
    exact ⟨.inr ⟨HN.out, rfl⟩, HB1.out⟩
  case true =>
  try simp only [cond]
  have k0 := HBX.out w1 HS1.out 0 _ rfl
  have k1 := HBX.out w1 HS1.out 1 _ rfl
  have k2 := HBX.out w1 HS1.out 2 _ rfl
  have k3 := HBX.out w1 HS1.out 3 _ rfl
  have k4 := HBX.out w1 HS1.out 4 _ rfl
  have k5 := HBX.out w1 HS1.out 5 _ rfl
  have A1 := Lib.hid (KB.out w1 HB1.out)
  go_upto_region 5 with (go_at_call 7; with_reducible refine A1.out.mono ?_; rintro e w2 hK; obtain ⟨o2, n2, c2, b2, rfl, hc2, hp2, ho2, hb2⟩ := hK.out)
  clear A1 k0 k1 k2 k3 k4 k5
  have hb2' := HB1.out.trans (hb2.mono HB1.out.size)
  have HB2 := Lib.hid hb2'
  have HP2 := Lib.hid hp2
  have HO2 := Lib.hid ho2
  have ho1' := HO1.out.below hb2
  have HO1' := Lib.hid ho1'
  clear hb2 hp2 ho2 hb2' ho1' HO1
  cases b2
  case false =>
    have HN : Hid (¬ PP) := Lib.hid (fun h => absurd (HP2.out.2 (HPP.out.1 h).2) (by decide))
    try simp only [cond]
    go_wp2
    go_ret3
    exact ⟨.inr ⟨HN.out, rfl⟩, HB2.out⟩
  case true =>
  try simp only [cond]
  have hx : EnO w2 _ (.slice o1 n1 c1) X := HO1'.out
  have hy : EnO w2 _ (.slice o2 n2 c2) Y := HO2.out
  obtain rfl := hx.len
  obtain rfl := hy.len
  have HXE := Lib.hid hx.en
  have HYE := Lib.hid hy.en
  have HXX := Lib.hid (HX.out (HP1.out.1 (by simp)))
  have HYY := Lib.hid (HY.out (HP2.out.1 (by simp)))
  have HP : Hid PP := Lib.hid (HPP.out.2 ⟨HP1.out.1 (by simp), HP2.out.1 (by simp)⟩)
  have A2 := Lib.hid (less_gone o1 o2 c1 c2 X Y w2 HXE.out HYE.out HYY.out.1 (by have := HXX.out.2; omega) (by have := HYY.out.2; omega))
  clear hx hy HO1' HO2 HP1 HP2 HX HY
  go_upto_region 8 with (go_at_call 27; with_reducible refine A2.out.mono ?_; rintro e w3 ⟨u, rfl, ho3, hb3⟩; obtain ⟨o3, c3, rfl, hc3, hen3⟩ := ho3.ena)
  have HB3 := Lib.hid (HB2.out.trans (hb3.mono HB2.out.size))
  have HEN3 := Lib.hid hen3
  have HXE3 := Lib.hid (HXE.out.below hb3)
  have HYE3 := Lib.hid (HYE.out.below hb3)
  have hgl : (goneL X Y).length ≤ 5000 := Nat.le_trans (List.length_filter_le _ _) HXX.out.2
  have HGL := Lib.hid hgl
  obtain ⟨G, hG⟩ : ∃ l, goneL X Y = l := ⟨_, rfl⟩
  rw [hG] at hc3 HEN3 hgl HGL ⊢
  have HGE := Lib.hid hG
  clear ho3 hb3 hen3 A2 HXE HYE hG
  go_loopg [5, 31] G.length (fun g V N wr => ∃ j : Nat, j + g = G.length ∧ N = .int .i64 j ∧ Hid (wr.ownsRow w3.heap.size 9 1 V j (((G.take j).map (·.k)).map strL')) ∧ Hid (Below w3.heap.size w3 wr))
  case atStart => exact ⟨0, by omega, rfl, Lib.hid ⟨rfl, .inl ⟨rfl, rfl⟩⟩, Lib.hid (Below.refl _ _)⟩
  case round =>
    obtain ⟨j, hj, rfl, HO, HB⟩ := hrel
    by_cases hlt : j < G.length
    · obtain ⟨x, hx⟩ : ∃ x, G[j]? = some x := ⟨_, List.getElem?_eq_getElem hlt⟩
      obtain ⟨b1, off, rfl, hb, c0, c1'⟩ := (HEN3.out.below HB.out) j x hx
      have i1 : (j : Int) < (G.length : Int) := by omega
      have i2 : (0 : Int) ≤ (j : Int) := by omega
      have htk : G.take (j + 1) = G.take j ++ [x] := by rw [List.take_add_one, hx]; rfl
      have HTK := Lib.hid htk
      have hj5 : j ≤ 100000 := by omega
      have hsz := HB.out.size
      clear hx htk
      go_wp2_with (at_builtin; refine wpList_appown _ rfl (.tmp 35) (.tmp 38) 34 rfl i0 _ 1 16 Tryz.underlying34 hi hz0 hz1 hz2 rfl (by decide) rfl (ownC_al (ownC_al HO.out _) _) (wr.heap.size + 1) 1 #[strL' x.k] 9 rfl (by simpa using heap_alloc_new (wr.alloc _) _) rfl ?d1 hj5 (by decide) ?d2 ?_)
      case d1 => exact rfl
      case d2 => simp; omega
      intro v' w4 ho4 hg4
      have HO4 : Hid (w4.ownsRow w3.heap.size 9 1 v' (j + 1) (((G.take (j + 1)).map (·.k)).map strL')) := Lib.hid (by rw [HTK.out]; simpa [List.map_take] using ho4)
      have HB4 : Hid (Below w3.heap.size w3 w4) := Lib.hid (((HB.out.alloc hsz _).alloc (by simp; omega) _).grown hg4 (by simp; omega) (fun g hg => (ownC_blk HO.out g hg).1))
      clear ho4 hg4
      go_wp2
      go_roundg (G.length - (j + 1))
      case measure => omega
      case rel => exact ⟨j + 1, by omega, by go_num, HO4, HB4⟩
    · obtain rfl : j = G.length := by omega
      obtain ⟨od, cd, rfl, hcd⟩ := ownC_form HO.out
      have hrow : KyO wr w3.heap.size (.slice od G.length cd) (G.map (·.k)) := by
        have := HO.out
        rw [List.take_length] at this
        unfold KyO
        rw [List.length_map]
        exact this
      have HROW := Lib.hid hrow
      have HBW := Lib.hid (HB3.out.trans (HB.out.mono HB3.out.size))
      have A3 := Lib.hid (less_new o2 o1 c2 c1 Y X wr (HYE3.out.below HB.out) (HXE3.out.below HB.out) HXX.out.1 (by have := HYY.out.2; omega) (by have := HXX.out.2; omega))
      clear hrow
      go_wp2_with (go_at_call 27; with_reducible refine A3.out.mono ?_; rintro e w5 ⟨u, rfl, ho5, hb5⟩; obtain ⟨o5, c5, rfl, hc5, hen5⟩ := ho5.ena)
      go_ret3
      have hk := (HROW.out.below hb5).kya
      obtain ⟨od', cd', e1, _, hka⟩ := hk
      simp only [Value.slice.injEq] at e1
      obtain ⟨rfl, _, rfl⟩ := e1
      have e2 := HGE.out
      subst e2
      exact ⟨.inl ⟨HP.out, o5, c5, od, cd, by rw [List.length_map]; rfl, hen5, hka⟩, HBW.out.trans (hb5.mono HBW.out.size)⟩
theorem defsN_len (f : Nat → List UInt8) : ∀ n, (∀ j, j < n → (piecesL j (f j)).length ≤ 41) → (defsN f n).length ≤ 41 * n
  | 0, _ => by simp [defsN]
  | n + 1, h => by
    rw [defsN_snoc, List.length_append]
    have := defsN_len f n (fun j hj => h j (by omega))
    have := h n (by omega)
    omega
theorem keys_len {s : Sm} (h : KeysOk s.st) (hs : s.small) : (keysL s.st).length ≤ 5000 := by
  have h1 := hd0_len s
  rw [hd0_eq] at h1
  have h2 : (defsL s.st).length ≤ 41 * s.dn := defsN_len (fun a => prT (s.df a)) s.dn (fun j hj => pieces_len (h.d j hj))
  have h3 := hs.d
  have h4 := hs.i
  have h5 := hs.v
  have h6 := hs.w
  have e1 : s.st.im = s.im := rfl
  have e2 : s.st.cn = s.cn := rfl
  have e3 : s.st.wn = s.wn := rfl
  unfold keysL
  simp only [List.length_append, List.length_map, rowL_len]
  omega
theorem changes_any {A : Nat → Nat × Nat} (a b : Sm) (w : World) (hG : Gl A w) (ha : a.at w) (hb : b.at w) (fa : a.fit) (fb : b.fit) (sa : a.small) (sb : b.small) :
    Calls Tryz.prog 8 #[.agg a.cs, .agg b.cs] w (CR (KeysOk a.st ∧ KeysOk b.st) (newL (keysL b.st) (keysL a.st)) ((goneL (keysL a.st) (keysL b.st)).map (·.k)) w) :=
  changes_walk a b w _ _ _ _ (fun h => ⟨h.rise, keys_len h sa⟩) (fun h => ⟨h.rise, keys_len h sb⟩) (fun W hW => keys_kr a W (hG.below hW) (ha.below hW) fa sa) (fun W hW => keys_kr b W (hG.below hW) (hb.below hW) fb sb)
end Go.Proofs.YtjakdbahopbggaaGreatDoor
end
/- A row of entries' cells: appends with room, copies, clearing; append of zeros that grows. Conditions: at most 100000 entries. -/
section
namespace Go.Proofs.YtjakdbahopbggaaGreatDoor
open Go.RowKit Go.Ow Go.Wi

/-- block g is a row of entries' cells -/
def Rw (w : World) (g : Nat) (cur : Array Value) : Prop := w.heap[g]? = some (.cells cur 42 (0, 0))
theorem Rw.set {w : World} {g : Nat} {cur : Array Value} (h : Rw w g cur) (cur' : Array Value) : Rw (w.setRow g cur') g cur' := setRow_heap w g cur cur' _ (0, 0) h
theorem But.setRow (g : Nat) (w : World) (cs : Array Value) : But g w (w.setRow g cs) := ⟨rfl, rfl, rfl, by simp [World.setRow], fun k _ hne => setRow_other w g k cs hne⟩
theorem Rw.lt {w : World} {g : Nat} {cur : Array Value} (h : Rw w g cur) : g < w.heap.size := (Array.getElem?_eq_some_iff.1 h).1
theorem Rw.cell {w : World} {g : Nat} {cur : Array Value} (h : Rw w g cur) (o : Nat) : w.cell? ⟨g, o, none⟩ = cur.toList[o]? := by
  rw [cell_of_row w g o cur _ (0, 0) h, Array.getElem?_toList]
theorem Rw.below {w w' : World} {g : Nat} {cur : Array Value} (h : Rw w g cur) (hb : Below w.heap.size w w') : Rw w' g cur := by
  unfold Rw
  rw [hb.block g h.lt]
  exact h
def putAt (cur : Array Value) (o : Nat) (cs : List Value) : Array Value := (cur.toList.take o ++ cs ++ cur.toList.drop (o + cs.length)).toArray
theorem putAt_size {cur : Array Value} {o : Nat} {cs : List Value} (h : o + cs.length ≤ cur.size) : (putAt cur o cs).size = cur.size := by
  unfold putAt
  simp
  omega
set_option maxRecDepth 100000 in
theorem app_room2 (w : World) (ty : TypeId) (g i cap m c : Nat) (cur : Array Value) (a : Addr) (news : List Value) (h : Rw w g cur) (hl : news.length = m * 2) (hnews : ∀ j u, news[j]? = some u → w.cell? (a.add j) = some u) (h1 : ∀ u ∈ news, u.oneCell' = true)
    (hroom : i + m ≤ cap) (hfit : i * 2 + news.length ≤ cur.size) :
    (Builtin.append_ #[30, 30] ty #[.slice (some ⟨g, 0, none⟩) i cap, .slice (some a) m c]).run Tryz.prog w = .ok (.slice (some ⟨g, 0, none⟩) (i + m) cap) (w.setRow g (putAt cur (i * 2) news)) :=
  run_append_room (P := Tryz.prog) w 30 ty 42 ((Tryz.prog.info? 42).get (by rfl)) Tryz.underlying30 (by rfl) g i cap cur h a m c news hl hnews h1 hroom hfit
set_option maxRecDepth 100000 in
theorem copy2 (w : World) (ty : TypeId) (g o dLen dCap : Nat) (a : Addr) (sLen sCap q : Nat) (cur : Array Value) (cs : List Value) (h : Rw w g cur) (hq : Nat.min sLen dLen = q) (hn : cs.length = q * 2)
    (hsrc : ∀ j v, cs[j]? = some v → w.cell? (a.add j) = some v) (hfit : o + cs.length ≤ cur.size) (h1 : ∀ v ∈ cs, v.oneCell' = true) :
    (Builtin.copy_ #[30, 30] ty #[.slice (some ⟨g, o, none⟩) dLen dCap, .slice (some a) sLen sCap]).run Tryz.prog w = .ok (goInt q) (w.setRow g (putAt cur o cs)) := by
  have hl := run_loadCells_list (P := Tryz.prog) w a cs hsrc
  have hst := run_storeCells_at Tryz.prog g o 42 cs 0 cur w h (by simpa using hfit) h1
  obtain ⟨i0, hi, hz0, hz, hz2⟩ := info_parts info_entry
  have hu := run_underlying (P := Tryz.prog) (w := w) Tryz.underlying30
  simp [Builtin.copy_, hu, Builtin.lenOf, Builtin.firstCells, sizeOf, typeInfo, hi, hz, hq, ← hn, hl, hst, putAt]
set_option maxRecDepth 100000 in
theorem clear2 (w : World) (ty : TypeId) (g o c : Nat) (cur : Array Value) (h : Rw w g cur) (hfit : o + 2 ≤ cur.size) :
    (Builtin.clear_ #[30] ty #[.slice (some ⟨g, o, none⟩) 1 c]).run Tryz.prog w = .ok (.tuple #[]) (w.setRow g (putAt cur o [.string ⟨#[]⟩, .string ⟨#[]⟩])) := by
  have hst := run_storeCells_at Tryz.prog g o 42 [.string ⟨#[]⟩, .string ⟨#[]⟩] 0 cur w h (by simpa using hfit) (by intro v hv; simp only [List.mem_cons, List.not_mem_nil, or_false] at hv; rcases hv with rfl | rfl <;> rfl)
  obtain ⟨i0, hi, hz, hz1, hz2⟩ := info_parts info_entry
  have hcl : (Value.agg #[.string ⟨#[]⟩, .string ⟨#[]⟩]).cells = #[.string ⟨#[]⟩, .string ⟨#[]⟩] := rfl
  have hzc : (Builtin.zeroCells #[Value.string ⟨#[]⟩, Value.string ⟨#[]⟩] 1).toList = [.string ⟨#[]⟩, .string ⟨#[]⟩] := by simp [Builtin.zeroCells, List.range_succ]
  have hu := run_underlying (P := Tryz.prog) (w := w) Tryz.underlying30
  simp [Builtin.clear_, hu, zeroValue, typeInfo, hi, hz, hcl, hzc, hst, putAt]
theorem zeros_len (n : Nat) : (Builtin.zeroCells #[Value.string ⟨#[]⟩, Value.string ⟨#[]⟩] n).toList.length = n * 2 := by simp [Builtin.zeroCells]
set_option maxRecDepth 100000 in
theorem app_grow0 (w : World) (ty : TypeId) (g i cap k : Nat) (cur : Array Value) (h : Rw w g cur) (hs : cur.size = cap * 2) (hi0 : i ≤ cap) (hk : 0 < k) (hroom : cap < i + k) (hm : i + k ≤ 100000) :
    ∃ C cur', (Builtin.append_ #[30, 3] ty #[.slice (some ⟨g, 0, none⟩) i cap, .int .i64 (k : Int)]).run Tryz.prog w = .ok (.slice (some ⟨w.heap.size, 0, none⟩) (i + k) C) (w.drew.alloc (.cells cur' 42)) ∧ i + k ≤ C ∧ C ≤ maxLen ∧ cur'.size = C * 2 ∧ cur'.toList.take (i * 2) = cur.toList.take (i * 2) := by
  have hcap := grownCap_ge w (i + k) cap 42
  have hcap2 := grownCap_le_maxLen w (i + k) cap 42 (by unfold maxLen; omega)
  refine ⟨grownCap w (i + k) cap 42, ⟨(cur.toList.take (i * 2) ++ (Builtin.zeroCells #[Value.string ⟨#[]⟩, Value.string ⟨#[]⟩] k).toList) ++ (Builtin.zeroCells #[Value.string ⟨#[]⟩, Value.string ⟨#[]⟩] (grownCap w (i + k) cap 42 - (i + k))).toList⟩, ?_, hcap, hcap2, ?_, ?_⟩
  · obtain ⟨i0, hi, hz, hz1, hz2⟩ := info_parts info_entry
    have hcl : (Value.agg #[.string ⟨#[]⟩, .string ⟨#[]⟩]).cells = #[.string ⟨#[]⟩, .string ⟨#[]⟩] := rfl
    have hw : IntKind.i64.wrap (k : Int) = (k : Int) := by unfold IntKind.wrap; simp [IntKind.bits, IntKind.signed]; omega
    have h1 : ¬ ((k : Int) < 0) := by omega
    have h2 : ¬ (281474976710656 < (k : Int) * 32) := by omega
    have h3 : ¬ (i + k ≤ cap) := by omega
    have h3'' : ¬ (k * 2 = 0) := by omega
    have h63' : ¬ (9223372036854775807 < (i : Int) + (k : Int)) := by omega
    have h48' : ¬ (281474976710656 < Builtin.nextslicecap (i + k) cap * 32) := by
      have h1 := Go.Om.nextcap_le (i + k) cap (by omega)
      omega
    have hf := run_firstCells_some (P := Tryz.prog) w.drew 2 i ⟨g, 0, none⟩ i cap (cur.toList.take (i * 2)) (by simp; omega) (fun j u hj => by
      rw [Addr.add_lit, Nat.zero_add]
      show w.cell? _ = _
      rw [h.cell]
      rw [List.getElem?_take] at hj
      split at hj
      · exact hj
      · cases hj)
    simp [Builtin.append_, run_underlying Tryz.underlying30, run_underlying Tryz.underlying3, sizeOf, typeInfo, zeroValue, hi, hz, hz1, hz2, hcl, hw, h1, h2, h3, h3'', h63', h48', Question.forced, newRow, grownCap, hf, asInt, asIntOf]
    congr 2
    apply Array.ext'
    simp
  · have e : ∀ n, (Builtin.zeroCells #[Value.string ⟨#[]⟩, Value.string ⟨#[]⟩] n).size = n * 2 := fun n => by simp [Builtin.zeroCells]
    simp only [List.size_toArray, List.length_append, List.length_take, Array.length_toList, e]
    omega
  · simp only [List.append_assoc]
    rw [List.take_append_of_le_length (by simp; omega), List.take_take, Nat.min_self]
end Go.Proofs.YtjakdbahopbggaaGreatDoor
end
