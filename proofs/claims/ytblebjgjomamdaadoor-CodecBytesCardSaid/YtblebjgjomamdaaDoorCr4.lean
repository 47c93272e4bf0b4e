/- What the codec's reader reads: a list of flows, a list of nodes. Conditions: the bytes are not too many. -/
import Derived.Test.YtblebjgjomamdaaDoorCr3
namespace Go.Proofs.YtblebjgjomamdaaDoor
open Go.RowKit Go.Ow Go.Wi

set_option maxRecDepth 100000 in
theorem info_flow : (Tryd.prog.info? 35).map (fun i => (i.zero, i.size, i.bytes)) = some (some (.agg #[.int .i64 0, .int .i64 0, .string ⟨#[]⟩, .bool false]), 4, 40) := by kernel_rfl
set_option maxRecDepth 100000 in
theorem info_node : (Tryd.prog.info? 41).map (fun i => (i.zero, i.size, i.bytes)) = some (some (.agg #[.string ⟨#[]⟩, .int .u8 0, .int .i64 0, .int .i64 0, .int .u8 0, .string ⟨#[]⟩, .string ⟨#[]⟩, .string ⟨#[]⟩, .bool false, .slice none 0 0, .slice none 0 0]), 11, 152) := by kernel_rfl
set_option maxRecDepth 100000 in
set_option maxHeartbeats 4000000 in
theorem list_flow (b B : Nat) (c0 : Cs) (w : World) (h : RdC w b B c0) (hl : c0.r.l.length ≤ 10000) :
    Calls Tryd.prog 26 #[pt B, .func (.func 27) #[pt B] #[]] w fun e w' => ∃ u, e = .returned u ∧ w'.ownsRow w.heap.size 35 4 u (Cs.list rdFlow c0).1.length ((Cs.list rdFlow c0).1.flatMap fcell) ∧ Bu2 b B w w' ∧ RdC w' b B (Cs.list rdFlow c0).2 := by
  have NA := num_rd b B c0 w h hl
  have hle := c0.num_le
  have hln := c0.num_len
  have lt1 := Two.lt h.wr
  have lt2 := h.cr.lt
  have HL0 := Lib.hid hl
  unfold Cs.list
  obtain ⟨⟨n0, c1⟩, hq⟩ : ∃ q, c0.num = q := ⟨_, rfl⟩
  rw [hq] at NA hle hln ⊢
  simp only at NA hle hln ⊢
  obtain ⟨i0, hi, hz0, hz1, hz2⟩ := info_parts info_flow
  have NA := Lib.hid NA
  clear hq h
  obtain ⟨ys, c', hR⟩ : ∃ ys c', rep rdFlow n0 c1 = (ys, c') := ⟨_, _, rfl⟩
  rw [hR]
  simp only
  have HR := Lib.hid hR
  clear hR
  go_enter Tryd.func26, Tryd.ntmps26
  go_wp2_with (go_at_call 44; with_reducible refine NA.out.mono ?_; rintro e w1 ⟨rfl, hb1, h1⟩)
  have HB1 := Lib.hid hb1
  have HC1 := Lib.hid h1
  clear hb1 h1 NA
  go_loopw [5, 6] (fun V N wr => ∃ (k : Nat) (xs : List Fl) (c : Cs), k ≤ n0 ∧ N = .int .i64 k ∧ Hid (rep rdFlow n0 c1 = (xs ++ (rep rdFlow k c).1, (rep rdFlow k c).2)) ∧ Hid (wr.ownsRow w.heap.size 35 4 V xs.length (xs.flatMap fcell)) ∧ Hid (Bu2 b B w wr) ∧ Hid (RdC wr b B c) ∧ Hid (xs.length + c.r.l.length ≤ c1.r.l.length + (if c.bad then 1 else 0)) ∧ Hid (c.r.l.length ≤ 10000)) (fun _ N _ => (intOf N).toNat)
  case atStart => exact ⟨n0, [], c1, Nat.le_refl _, rfl, Lib.hid rfl, Lib.hid ⟨rfl, .inl ⟨rfl, rfl⟩⟩, HB1, HC1, Lib.hid (by simp), Lib.hid (by have := HL0.out; omega)⟩
  case round =>
    obtain ⟨k, xs, c, hk, rfl, HP, HO, HB, HC, HX, HL⟩ := hrel
    have k1 := HC.out.cr.c1
    obtain ⟨r, bad⟩ := c
    simp only at k1
    cases k with
    | zero =>
      have e1 : ys = xs ∧ c' = ⟨r, bad⟩ := by have := HP.out; rw [HR.out] at this; simp only [rep, List.append_nil, Prod.mk.injEq] at this; exact this
      obtain ⟨rfl, rfl⟩ := e1
      go_wp2
      go_ret
      exact ⟨_, rfl, HO.out, HB.out, HC.out⟩
    | succ k =>
      cases bad
      case true =>
        have e1 : ys = xs ∧ c' = ⟨r, true⟩ := by have := HP.out; rw [HR.out] at this; simp only [rep, if_true, List.append_nil, Prod.mk.injEq] at this; exact this
        obtain ⟨rfl, rfl⟩ := e1
        go_wp2
        go_ret
        exact ⟨_, rfl, HO.out, HB.out, HC.out⟩
      case false =>
        have HP2 := HP.out
        simp only [rep, Bool.false_eq_true, if_false] at HP2
        have hx := HX.out
        simp only [Bool.false_eq_true, if_false] at hx
        have ON := flow_rd b B ⟨r, false⟩ wr HC.out HL.out
        have ea := rdFlow_eats ⟨r, false⟩
        have ln := rdFlow_len ⟨r, false⟩
        obtain ⟨⟨x, c2⟩, hq⟩ : ∃ q, rdFlow ⟨r, false⟩ = q := ⟨_, rfl⟩
        rw [hq] at HP2 ON ea ln
        simp only at HP2 ON ea ln
        have HX2 : Hid ((xs ++ [x]).length + c2.r.l.length ≤ c1.r.l.length + (if c2.bad then 1 else 0)) := Lib.hid (by
          rw [List.length_append, List.length_singleton]
          cases hb2 : c2.bad
          · have := ea hb2
            simp only [Bool.false_eq_true, if_false]
            omega
          · simp only [if_true]
            omega)
        have HL2 : Hid (c2.r.l.length ≤ 10000) := Lib.hid (by have := HL.out; simp only at this; omega)
        have HP3 : Hid (rep rdFlow n0 c1 = (xs ++ [x] ++ (rep rdFlow k c2).1, (rep rdFlow k c2).2)) := Lib.hid (by rw [HP2, List.append_assoc]; rfl)
        have hxs : xs.length ≤ 100000 := by have := HL0.out; omega
        have ON := Lib.hid ON
        have HXS := Lib.hid hxs
        have HBS : w.heap.size ≤ wr.heap.size := HB.out.size
        have HBSh := Lib.hid HBS
        have LT1 := Lib.hid lt1
        have LT2 := Lib.hid lt2
        clear hq HP2 ea ln HP HX HL hx hln
        go_wp2_with (first
          | (go_at_call 27; with_reducible refine ON.out.mono ?_; rintro e w3 ⟨rfl, hb3, h3⟩; have HO3 := Lib.hid (ownC_bu2 HO.out hb3 LT1.out LT2.out); have hs3 := hb3.size)
          | (at_builtin; refine wpList_appown _ rfl (.tmp 20) (.tmp 23) 26 rfl i0 _ 4 40 Tryd.underlying26 hi hz0 hz1 hz2 rfl (by decide) rfl (ownC_al HO3.out _) w3.heap.size 1 #[.int .i64 x.fr, .int .i64 x.to, .string x.iff, .bool x.els] 35 rfl (heap_alloc_new _ _) rfl ?d1 HXS.out (by decide) ?d2 ?_))
        case d1 => exact ⟨rfl, rfl, rfl, rfl⟩
        case d2 => simp; omega
        intro v' w4 ho4 hg4
        have HG := Lib.hid hg4
        have hrow : ∀ g, Value.ownBlock _ = some g → w.heap.size ≤ g := fun g hg => (ownC_blk HO3.out g hg).1
        have hb5 := Bu2.grown ((HB.out.trans hb3).al _) hg4 hrow
        have h5 := (h3.al _).grown hg4 hrow LT1.out LT2.out
        have HO5 : Hid (w4.ownsRow w.heap.size 35 4 v' (xs ++ [x]).length ((xs ++ [x]).flatMap fcell)) := Lib.hid (by rw [List.length_append, List.length_singleton, List.flatMap_append]; exact ho4)
        clear ho4 hg4 hrow
        go_wp2
        go_roundw
        case rel => exact ⟨k, xs ++ [x], c2, by omega, by go_num, HP3, HO5, Lib.hid hb5, Lib.hid h5, HX2, HL2⟩
        case measure => simp [intOf]

/-- a node's data; its rows are its own; its cells -/
def Nod.pn (y : Nod) : PNod := ⟨y.d, rowL y.f y.m, rowL y.g y.n⟩
def NodOwn (w : World) (B0 : Nat) (y : Nod) : Prop := w.ownsRow B0 49 4 (.slice y.o y.m y.c) y.m ((rowL y.f y.m).flatMap vcell) ∧ w.ownsRow B0 9 1 (.slice y.p y.n y.q) y.n ((rowL y.g y.n).flatMap scell) ∧ y.m ≤ y.c ∧ y.n ≤ y.q
def ncell (y : Nod) : List Value := y.cs.toList
theorem NodOwn.bu2 {w w' : World} {b B B0 : Nat} {y : Nod} (h : NodOwn w B0 y) (hb : Bu2 b B w w') (h1 : b < B0) (h2 : B < B0) : NodOwn w' B0 y := ⟨ownC_bu2 h.1 hb h1 h2, ownC_bu2 h.2.1 hb h1 h2, h.2.2⟩
theorem NodOwn.al {w : World} {B0 : Nat} {y : Nod} (h : NodOwn w B0 y) (o : Obj) : NodOwn (w.alloc o) B0 y := ⟨ownC_al h.1 o, ownC_al h.2.1 o, h.2.2⟩
theorem NodOwn.base {w : World} {B0 B1 : Nat} {y : Nod} (h : NodOwn w B0 y) (hB : B1 ≤ B0) : NodOwn w B1 y := ⟨ownC_base h.1 hB, ownC_base h.2.1 hB, h.2.2⟩
theorem NodOwn.grown {w w' : World} {B0 B1 n : Nat} {u : Value} {xs : List Value} {y : Nod} (h : NodOwn w B0 y) (ho : w.ownsRow B1 41 11 u n xs) (hg : w.grownBy w' u.ownBlock) : NodOwn w' B0 y := ⟨ownC_grown h.1 ho (by decide) hg, ownC_grown h.2.1 ho (by decide) hg, h.2.2⟩
theorem node_rd' (b B : Nat) (c : Cs) (w : World) (h : RdC w b B c) (hl : c.r.l.length ≤ 10000) :
    Calls Tryd.prog 25 #[pt B] w fun e w' => ∃ y : Nod, e = .returned (.agg y.cs) ∧ y.pn = (rdNode c).1 ∧ NodOwn w' w.heap.size y ∧ Bu2 b B w w' ∧ RdC w' b B (rdNode c).2 := by
  have H := node_rd b B c w h hl
  obtain ⟨⟨⟨d, vs, bs⟩, c'⟩, hq⟩ : ∃ q, rdNode c = q := ⟨_, rfl⟩
  rw [hq] at H ⊢
  refine H.mono ?_
  rintro e w' ⟨o1, p1, o2, p2, rfl, h1, h2, h3, h4, h5, h6⟩
  refine ⟨⟨d, o1, vs.length, p1, lAt ⟨⟨#[]⟩, 0, 0, ⟨#[]⟩⟩ vs, o2, bs.length, p2, lAt ⟨#[]⟩ bs⟩, rfl, ?_, ⟨?_, ?_, h1, h2⟩, h5, h6⟩
  · unfold Nod.pn
    simp only [rowL_at]
  · simp only [rowL_at]
    exact h3
  · simp only [rowL_at]
    exact h4
set_option maxRecDepth 100000 in
set_option maxHeartbeats 4000000 in
theorem list_node (b B : Nat) (c0 : Cs) (w : World) (h : RdC w b B c0) (hl : c0.r.l.length ≤ 10000) :
    Calls Tryd.prog 24 #[pt B, .func (.func 25) #[pt B] #[]] w fun e w' => ∃ (u : Value) (ys : List Nod), e = .returned u ∧ w'.ownsRow w.heap.size 41 11 u ys.length (ys.flatMap ncell) ∧ ys.map Nod.pn = (Cs.list rdNode c0).1 ∧ (∀ y ∈ ys, NodOwn w' w.heap.size y) ∧ Bu2 b B w w' ∧ RdC w' b B (Cs.list rdNode c0).2 := by
  have NA := num_rd b B c0 w h hl
  have hle := c0.num_le
  have hln := c0.num_len
  have lt1 := Two.lt h.wr
  have lt2 := h.cr.lt
  have HL0 := Lib.hid hl
  unfold Cs.list
  obtain ⟨⟨n0, c1⟩, hq⟩ : ∃ q, c0.num = q := ⟨_, rfl⟩
  rw [hq] at NA hle hln ⊢
  simp only at NA hle hln ⊢
  obtain ⟨i0, hi, hz0, hz1, hz2⟩ := info_parts info_node
  have NA := Lib.hid NA
  clear hq h
  obtain ⟨ps, c', hR⟩ : ∃ ps c', rep rdNode n0 c1 = (ps, c') := ⟨_, _, rfl⟩
  rw [hR]
  simp only
  have HR := Lib.hid hR
  clear hR
  go_enter Tryd.func24, Tryd.ntmps24
  go_wp2_with (go_at_call 44; with_reducible refine NA.out.mono ?_; rintro e w1 ⟨rfl, hb1, h1⟩)
  have HB1 := Lib.hid hb1
  have HC1 := Lib.hid h1
  clear hb1 h1 NA
  go_loopw [5, 6] (fun V N wr => ∃ (k : Nat) (xs : List PNod) (ys : List Nod) (c : Cs), k ≤ n0 ∧ N = .int .i64 k ∧ Hid (rep rdNode n0 c1 = (xs ++ (rep rdNode k c).1, (rep rdNode k c).2)) ∧ Hid (wr.ownsRow w.heap.size 41 11 V ys.length (ys.flatMap ncell)) ∧ Hid (ys.map Nod.pn = xs) ∧ Hid (∀ y ∈ ys, NodOwn wr w.heap.size y) ∧ Hid (Bu2 b B w wr) ∧ Hid (RdC wr b B c) ∧ Hid (xs.length + c.r.l.length ≤ c1.r.l.length + (if c.bad then 1 else 0)) ∧ Hid (c.r.l.length ≤ 10000)) (fun _ N _ => (intOf N).toNat)
  case atStart => exact ⟨n0, [], [], c1, Nat.le_refl _, rfl, Lib.hid rfl, Lib.hid ⟨rfl, .inl ⟨rfl, rfl⟩⟩, Lib.hid rfl, Lib.hid (by simp), HB1, HC1, Lib.hid (by simp), Lib.hid (by have := HL0.out; omega)⟩
  case round =>
    obtain ⟨k, xs, ys, c, hk, rfl, HP, HO, HY, HN, HB, HC, HX, HL⟩ := hrel
    have k1 := HC.out.cr.c1
    obtain ⟨r, bad⟩ := c
    simp only at k1
    cases k with
    | zero =>
      have e1 : ps = xs ∧ c' = ⟨r, bad⟩ := by have := HP.out; rw [HR.out] at this; simp only [rep, List.append_nil, Prod.mk.injEq] at this; exact this
      obtain ⟨rfl, rfl⟩ := e1
      go_wp2
      go_ret
      exact ⟨_, rfl, ys, HO.out, HY.out, HN.out, HB.out, HC.out⟩
    | succ k =>
      cases bad
      case true =>
        have e1 : ps = xs ∧ c' = ⟨r, true⟩ := by have := HP.out; rw [HR.out] at this; simp only [rep, if_true, List.append_nil, Prod.mk.injEq] at this; exact this
        obtain ⟨rfl, rfl⟩ := e1
        go_wp2
        go_ret
        exact ⟨_, rfl, ys, HO.out, HY.out, HN.out, HB.out, HC.out⟩
      case false =>
        have HP2 := HP.out
        simp only [rep, Bool.false_eq_true, if_false] at HP2
        have hx := HX.out
        simp only [Bool.false_eq_true, if_false] at hx
        have ON := node_rd' b B ⟨r, false⟩ wr HC.out HL.out
        have ea := rdNode_eats ⟨r, false⟩
        have ln := rdNode_len ⟨r, false⟩
        obtain ⟨⟨x, c2⟩, hq⟩ : ∃ q, rdNode ⟨r, false⟩ = q := ⟨_, rfl⟩
        rw [hq] at HP2 ON ea ln
        simp only at HP2 ON ea ln
        have HX2 : Hid ((xs ++ [x]).length + c2.r.l.length ≤ c1.r.l.length + (if c2.bad then 1 else 0)) := Lib.hid (by
          rw [List.length_append, List.length_singleton]
          cases hb2 : c2.bad
          · have := ea hb2
            simp only [Bool.false_eq_true, if_false]
            omega
          · simp only [if_true]
            omega)
        have HL2 : Hid (c2.r.l.length ≤ 10000) := Lib.hid (by have := HL.out; simp only at this; omega)
        have HP3 : Hid (rep rdNode n0 c1 = (xs ++ [x] ++ (rep rdNode k c2).1, (rep rdNode k c2).2)) := Lib.hid (by rw [HP2, List.append_assoc]; rfl)
        have hxs : ys.length ≤ 100000 := by have := HL0.out; have := congrArg List.length HY.out; rw [List.length_map] at this; omega
        have ON := Lib.hid ON
        have HXS := Lib.hid hxs
        have HBS : w.heap.size ≤ wr.heap.size := HB.out.size
        have HBSh := Lib.hid HBS
        have LT1 := Lib.hid lt1
        have LT2 := Lib.hid lt2
        clear hq HP2 ea ln HP HX HL hx hln
        go_wp2_with (first
          | (go_at_call 25; with_reducible refine ON.out.mono ?_; rintro e w3 ⟨y, rfl, hy, hyo, hb3, h3⟩; have HO3 := Lib.hid (ownC_bu2 HO.out hb3 LT1.out LT2.out); have HY3 := Lib.hid hy; have HYO := Lib.hid hyo; clear hy hyo; have hs3 := hb3.size)
          | (at_builtin; refine wpList_appown _ rfl (.tmp 20) (.tmp 23) 25 rfl i0 _ 11 152 Tryd.underlying25 hi hz0 hz1 hz2 rfl (by decide) rfl (ownC_al HO3.out _) w3.heap.size 1 y.cs 41 rfl (heap_alloc_new _ _) rfl ?d1 HXS.out (by decide) ?d2 ?_))
        case d1 => exact ⟨rfl, rfl, rfl, rfl, rfl, rfl, rfl, rfl, rfl, rfl, rfl⟩
        case d2 => simp; omega
        intro v' w4 ho4 hg4
        have HG := Lib.hid hg4
        have hrow : ∀ g, Value.ownBlock _ = some g → w.heap.size ≤ g := fun g hg => (ownC_blk HO3.out g hg).1
        have hb5 := Bu2.grown ((HB.out.trans hb3).al _) hg4 hrow
        have h5 := (h3.al _).grown hg4 hrow LT1.out LT2.out
        have HN5 : Hid (∀ z ∈ ys ++ [y], NodOwn w4 w.heap.size z) := Lib.hid (fun z hz => by
          rcases List.mem_append.1 hz with hz | hz
          · exact (((HN.out z hz).bu2 hb3 LT1.out LT2.out).al _).grown (ownC_al HO3.out _) HG.out
          · obtain rfl := List.mem_singleton.1 hz
            exact ((HYO.out.base HBSh.out).al _).grown (ownC_al HO3.out _) HG.out)
        have HY5 : Hid ((ys ++ [y]).map Nod.pn = xs ++ [x]) := Lib.hid (by rw [List.map_append, HY.out, List.map_singleton, HY3.out])
        have HO5 : Hid (w4.ownsRow w.heap.size 41 11 v' (ys ++ [y]).length ((ys ++ [y]).flatMap ncell)) := Lib.hid (by rw [List.length_append, List.length_singleton, List.flatMap_append]; exact ho4)
        clear ho4 hg4 hrow
        go_wp2
        go_roundw
        case rel => exact ⟨k, xs ++ [x], ys ++ [y], c2, by omega, by go_num, HP3, HO5, HY5, HN5, Lib.hid hb5, Lib.hid h5, HX2, HL2⟩
        case measure => simp [intOf]

end Go.Proofs.YtblebjgjomamdaaDoor
