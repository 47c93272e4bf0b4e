/- What save.Keys returns: a state's keys, or an error. Conditions: as many elements as large lets by. -/
import Derived.Test.YtjakdbahopbggaaGreatDoorZSv4
import Derived.Test.YtjakdbahopbggaaGreatDoorZK31
import Derived.Test.YtjakdbahopbggaaGreatDoorZSv8
namespace Go.Proofs.YtjakdbahopbggaaGreatDoor
open Go.RowKit Go.Ow Go.Wi

/-- a list, and whether it could be told -/
def Told (w : World) (B : Nat) (u : Value) (b : Bool) (P : Prop) (l : List En) : Prop := (b = true ↔ P) ∧ EnO w B u (if b then l else [])
theorem told_of {w' : World} {B : Nat} {e : Ending} {P : Prop} {l : List En} (h : (P ∧ ∃ u, e = .returned (.tuple #[u, .bool true]) ∧ EnO w' B u l) ∨ (¬ P ∧ e = .returned (.tuple #[.slice none 0 0, .bool false]))) :
    ∃ o n c b, e = .returned (.tuple #[.slice o n c, .bool b]) ∧ n ≤ c ∧ Told w' B (.slice o n c) b P l := by
  rcases h with ⟨hP, u, rfl, ho⟩ | ⟨hP, rfl⟩
  · obtain ⟨o, c, rfl, hc, _⟩ := ho.ena
    exact ⟨o, l.length, c, true, rfl, hc, ⟨fun _ => hP, fun _ => rfl⟩, ho⟩
  · exact ⟨none, 0, 0, false, rfl, Nat.le_refl _, ⟨(fun h => nomatch h), fun h => absurd h hP⟩, rfl, .inl ⟨rfl, rfl⟩⟩
theorem EnO.len {w : World} {B n c : Nat} {o : Option Addr} {l : List En} (h : EnO w B (.slice o n c) l) : n = l.length := by
  rcases h.2 with ⟨h1, h2⟩ | ⟨g, cap, cur, h1, _⟩
  · simp only [Value.slice.injEq] at h1; omega
  · simp only [Value.slice.injEq] at h1; exact h1.2.1
theorem EnO.en {w : World} {B n c : Nat} {o : Option Addr} {l : List En} (h : EnO w B (.slice o n c) l) : EnA w o l := by
  obtain ⟨o', c', e, _, ha⟩ := h.ena
  simp only [Value.slice.injEq] at e
  rw [e.1]
  exact ha
/-- a state in memory -/
structure Sm where
  c : Int
  nx : Int
  dO : Option Addr
  dn : Nat
  dc : Nat
  df : Nat → Pr
  iO : Option Addr
  im : Nat
  ic : Nat
  itf : Nat → It
  cO : Option Addr
  cn : Nat
  cc : Nat
  clf : Nat → Cl
  wO : Option Addr
  wn : Nat
  wc : Nat
  waf : Nat → Wa
def Sm.st (s : Sm) : St := ⟨s.c, s.nx, s.dn, s.df, s.im, s.itf, s.cn, s.clf, s.wn, s.waf⟩
abbrev Sm.sh (s : Sm) : Sh := ⟨s.c, s.nx, s.dO, s.dn, s.dc, s.iO, s.im, s.ic, s.cO, s.cn, s.cc, s.wO, s.wn, s.wc⟩
abbrev Sm.cs (s : Sm) : Array Value := #[.int .i64 s.c, .int .i64 s.nx, .slice s.dO s.dn s.dc, .slice s.iO s.im s.ic, .slice s.cO s.cn s.cc, .slice s.wO s.wn s.wc]
structure Sm.at (w : World) (s : Sm) : Prop where
  d : RowA (fun x : Pr => x.cs) 4 w s.dO s.dn s.df
  da : ∀ k, k < s.dn → (s.df k).at w
  i : RowA itC 8 w s.iO s.im s.itf
  v : RowA clC 5 w s.cO s.cn s.clf
  w : RowA waC 7 w s.wO s.wn s.waf
theorem Sm.at.below {w wr : World} {s : Sm} (h : s.at w) (hb : Below w.heap.size w wr) : s.at wr := ⟨h.d.below hb, fun k hk => (h.da k hk).below hb, h.i.below hb, h.v.below hb, h.w.below hb⟩
structure Sm.small (s : Sm) : Prop where
  d : s.dn ≤ 15
  i : s.im ≤ 170
  v : s.cn ≤ 400
  w : s.wn ≤ 200
structure Sm.fit (s : Sm) : Prop where
  d : ∀ k, (s.df k).fit
  i : ∀ k, (s.itf k).fitS
  v : ∀ k, (s.clf k).fitS
  w : ∀ k, (s.waf k).fitS
theorem defsN_snoc (f : Nat → List UInt8) (k : Nat) : defsN f (k + 1) = defsN f k ++ piecesL k (f k) := by unfold defsN; rw [List.range_succ, List.flatMap_append]; simp
theorem pieces_len {a : Nat} {x : Pr} (h : prOk x) : (piecesL a (prT x)).length ≤ 41 := by
  unfold piecesL
  rw [rowL_len, prT_len]
  have := h.2.2
  omega
theorem keys_ok_iff {s : Sm} : KeysOk s.st ↔ AllOk shE shOk (fun _ => s.sh) 1 ∧ (∀ j, j < s.dn → prOk (s.df j)) ∧ AllOk itE itOk s.itf s.im ∧ AllOk clE clOk s.clf s.cn ∧ AllOk waE waOk s.waf s.wn := by
  have h0 : AllOk shE shOk (fun _ => s.sh) 1 ↔ s.dn ≤ 12 ∧ numB s.c = true ∧ numB s.nx = true := by
    constructor
    · intro h
      have := (h 0 (by omega)).1
      unfold shOk shT shP at this
      simp only [Bool.and_eq_true, decide_eq_true_eq] at this
      exact this
    · intro h j hj
      obtain rfl : j = 0 := by omega
      refine ⟨?_, fun h => absurd h (by omega)⟩
      unfold shOk shT shP
      simp only [Bool.and_eq_true, decide_eq_true_eq]
      exact h
  rw [h0]
  constructor
  · intro h
    exact ⟨⟨h.dn, h.c, h.n⟩, h.d, h.i, h.v, h.w⟩
  · rintro ⟨⟨h1, h2, h3⟩, h4, h5, h6, h7⟩
    exact ⟨h2, h3, h1, h4, h5, h6, h7⟩
theorem sh_row {w : World} {g : Nat} {s : Sm} (h : w.heap[g]? = some (.cells s.cs 27 (0, 0))) : RowA shC 6 w (some ⟨g, 0, none⟩) 1 (fun _ => s.sh) := fun k hk => by
  obtain rfl : k = 0 := by omega
  refine ⟨g, 0, rfl, (Array.getElem?_eq_some_iff.1 h).1, fun r u hr => ?_⟩
  simp only [Nat.zero_mul, Nat.zero_add]
  rw [cell_of_row w g r _ _ (0, 0) h]
  exact hr
def hd0 (s : Sm) : List En := if s.c = 0 ∧ s.nx = 0 then [] else [shE s.sh]
theorem hd0_eq (s : Sm) : hd0 s = headL s.st := rfl
theorem hd0_len (s : Sm) : (hd0 s).length ≤ 1 := by unfold hd0; split <;> simp

def pick4 {α : Type} (a b c d : α) : Nat → α
  | 0 => a
  | 1 => b
  | 2 => c
  | _ => d
theorem rows4 {w : World} {g : Nat} {t : TypeId} {o0 o1 o2 o3 : Option Addr} {l0 l1 l2 l3 : List En} {c0 c1 c2 c3 : Nat} (h : w.heap[g]? = some (.cells #[.slice o0 l0.length c0, .slice o1 l1.length c1, .slice o2 l2.length c2, .slice o3 l3.length c3] t (0, 0)))
    (a0 : EnA w o0 l0) (a1 : EnA w o1 l1) (a2 : EnA w o2 l2) (a3 : EnA w o3 l3) : Rows w (some ⟨g, 0, none⟩) 4 (pick4 o0 o1 o2 o3) (pick4 l0 l1 l2 l3) (pick4 c0 c1 c2 c3) := fun k hk => by
  refine ⟨g, 0, rfl, (Array.getElem?_eq_some_iff.1 h).1, ?_, ?_⟩
  · rw [cell_of_row w g _ _ _ (0, 0) h]
    match k, hk with
    | 0, _ => rfl
    | 1, _ => rfl
    | 2, _ => rfl
    | 3, _ => rfl
  · match k, hk with
    | 0, _ => exact a0
    | 1, _ => exact a1
    | 2, _ => exact a2
    | 3, _ => exact a3
theorem cat4 (l0 l1 l2 l3 : List En) : cat_ (pick4 l0 l1 l2 l3) 4 = l0 ++ (l1 ++ (l2 ++ l3)) := by
  rw [cat_snoc, cat_snoc, cat_snoc, cat_snoc]
  simp [cat_, pick4]
/-- what a call of all comes to -/
def TL (P : Prop) (l : List En) (W : World) (e : Ending) (w' : World) : Prop := ∃ o n c b, e = .returned (.tuple #[.slice o n c, .bool b]) ∧ n ≤ c ∧ Told w' W.heap.size (.slice o n c) b P l ∧ Below W.heap.size W w'
theorem TL.out {P : Prop} {l : List En} {W : World} {e : Ending} {w' : World} (h : TL P l W e w') : ∃ o n c b, e = .returned (.tuple #[.slice o n c, .bool b]) ∧ n ≤ c ∧ Told w' W.heap.size (.slice o n c) b P l ∧ Below W.heap.size W w' := h
set_option maxRecDepth 100000 in
set_option maxHeartbeats 16000000 in
theorem keys_walk {A : Nat → Nat × Nat} (c nx : Int) (dO iO cO wO : Option Addr) (dn dc im ic cn cc wn wc : Nat) (df : Nat → Pr) (w : World) (P1 PI PV PW : Prop) (E0 : En) (LI LV LW : List En) (hG : Gl A w)
    (hd : RowA (fun x : Pr => x.cs) 4 w dO dn df) (hda : ∀ k, k < dn → (df k).at w) (hdf : ∀ k, (df k).fit) (hdn : dn ≤ 15) (hl : LI.length ≤ 200 ∧ LV.length ≤ 400 ∧ LW.length ≤ 200)
    (AS : ∀ W g, W.heap[g]? = some (.cells #[.int .i64 c, .int .i64 nx, .slice dO dn dc, .slice iO im ic, .slice cO cn cc, .slice wO wn wc] 27 (0, 0)) → Calls Tryz.prog 16 #[.slice (some ⟨g, 0, none⟩) 1 1, .func (.func 17) #[] #[]] W (TL P1 [E0] W))
    (AI : ∀ W, Below w.heap.size w W → Calls Tryz.prog 20 #[.slice iO im ic, .func (.func 21) #[] #[]] W (TL PI LI W))
    (AV : ∀ W, Below w.heap.size w W → Calls Tryz.prog 22 #[.slice cO cn cc, .func (.func 23) #[] #[]] W (TL PV LV W))
    (AW : ∀ W, Below w.heap.size w W → Calls Tryz.prog 24 #[.slice wO wn wc, .func (.func 25) #[] #[]] W (TL PW LW W)) :
    Calls Tryz.prog 7 #[.agg #[.int .i64 c, .int .i64 nx, .slice dO dn dc, .slice iO im ic, .slice cO cn cc, .slice wO wn wc]] w fun e w' => (((P1 ∧ (∀ j, j < dn → prOk (df j)) ∧ PI ∧ PV ∧ PW) ∧ ∃ u, e = .returned (.tuple #[u, .int .i64 0]) ∧ EnO w' w.heap.size u ((if c = 0 ∧ nx = 0 then [] else [E0]) ++ (defsN (fun a => prT (df a)) dn ++ (LI ++ (LV ++ LW))))) ∨ (¬ (P1 ∧ (∀ j, j < dn → prOk (df j)) ∧ PI ∧ PV ∧ PW) ∧ e = .returned (.tuple #[.slice none 0 0, .int .i64 4]))) ∧ Below w.heap.size w w' := by
  obtain ⟨PP, hPP⟩ : ∃ P, P ↔ (P1 ∧ (∀ j, j < dn → prOk (df j)) ∧ PI ∧ PV ∧ PW) := ⟨_, Iff.rfl⟩
  rw [← hPP]
  obtain ⟨H0, hH0⟩ : ∃ l, (if c = 0 ∧ nx = 0 then [] else [E0]) = l := ⟨_, rfl⟩
  rw [hH0]
  obtain ⟨RL, hRL⟩ : ∃ l, H0 ++ (defsN (fun a => prT (df a)) dn ++ (LI ++ (LV ++ LW))) = l := ⟨_, rfl⟩
  rw [hRL]
  have HPP := Lib.hid hPP
  have HH0 := Lib.hid hH0
  have HRL := Lib.hid hRL
  have HG := Lib.hid hG
  have HD := Lib.hid hd
  have HDA := Lib.hid hda
  have HDF := Lib.hid hdf
  have HLL := Lib.hid hl
  have AI := Lib.hid AI
  have AV := Lib.hid AV
  have AW := Lib.hid AW
  have h0l : H0.length ≤ 1 := by rw [← hH0]; split <;> simp
  have H0L := Lib.hid h0l
  have hb0 : Below w.heap.size w ((w.alloc (.cells #[.int .i64 c, .int .i64 nx, .slice dO dn dc, .slice iO im ic, .slice cO cn cc, .slice wO wn wc] 27)).alloc (.cells #[.int .i64 c, .int .i64 nx, .slice dO dn dc, .slice iO im ic, .slice cO cn cc, .slice wO wn wc] 27)) := ((Below.refl _ _).alloc (Nat.le_refl _) _).alloc (by simp) _
  have HB0 := Lib.hid hb0
  have AS := Lib.hid (AS ((w.alloc (.cells #[.int .i64 c, .int .i64 nx, .slice dO dn dc, .slice iO im ic, .slice cO cn cc, .slice wO wn wc] 27)).alloc (.cells #[.int .i64 c, .int .i64 nx, .slice dO dn dc, .slice iO im ic, .slice cO cn cc, .slice wO wn wc] 27)) (w.heap.size + 1) (by have := heap_alloc_new (w.alloc (.cells #[.int .i64 c, .int .i64 nx, .slice dO dn dc, .slice iO im ic, .slice cO cn cc, .slice wO wn wc] 27)) (.cells #[.int .i64 c, .int .i64 nx, .slice dO dn dc, .slice iO im ic, .slice cO cn cc, .slice wO wn wc] 27); simpa using this))
  have hbox : ((w.alloc (.cells #[.int .i64 c, .int .i64 nx, .slice dO dn dc, .slice iO im ic, .slice cO cn cc, .slice wO wn wc] 27)).alloc (.cells #[.int .i64 c, .int .i64 nx, .slice dO dn dc, .slice iO im ic, .slice cO cn cc, .slice wO wn wc] 27)).heap[w.heap.size]? = some (.cells #[.int .i64 c, .int .i64 nx, .slice dO dn dc, .slice iO im ic, .slice cO cn cc, .slice wO wn wc] 27 (0, 0)) := by
    rw [Below.heap_alloc _ _ _ (by simp)]
    exact heap_alloc_new w _
  have HBX := Lib.hid hbox
  have hlt0 : w.heap.size < ((w.alloc (.cells #[.int .i64 c, .int .i64 nx, .slice dO dn dc, .slice iO im ic, .slice cO cn cc, .slice wO wn wc] 27)).alloc (.cells #[.int .i64 c, .int .i64 nx, .slice dO dn dc, .slice iO im ic, .slice cO cn cc, .slice wO wn wc] 27)).heap.size := by simp; omega
  have HL0 := Lib.hid hlt0
  clear hPP hH0 hRL hG hd hda hdf hl hb0 h0l hbox hlt0
  go_enter Tryz.func7, Tryz.ntmps7
  go_upto_region 2 with (go_at_call 16; with_reducible refine AS.out.mono ?_; rintro e w1 hTL; obtain ⟨o1, n1, c1, b1, rfl, hc1, ht, hb1⟩ := hTL.out)
  clear AS
  -- the world with the boxes, behind a name
  obtain ⟨W2, HW2⟩ : ∃ W2 : World, Hid (Below w.heap.size w W2 ∧ Below W2.heap.size W2 w1 ∧ w.heap.size < W2.heap.size ∧ (b1 = true ↔ P1) ∧ EnO w1 W2.heap.size (.slice o1 n1 c1) (if b1 then [E0] else []) ∧ ∀ W, Below W2.heap.size W2 W → ∀ r u, (#[.int .i64 c, .int .i64 nx, .slice dO dn dc, .slice iO im ic, .slice cO cn cc, .slice wO wn wc] : Array Value)[r]? = some u → W.cell? ⟨w.heap.size, r, none⟩ = some u) := ⟨_, Lib.hid ⟨HB0.out, hb1, HL0.out, ht.1, ht.2, fun W hb r u hr => by
    rw [hb.cell (p := ⟨w.heap.size, r, none⟩) HL0.out, cell_of_row _ _ r _ _ (0, 0) HBX.out]
    exact hr⟩⟩
  clear ht hb1 HB0 HL0 HBX
  obtain ⟨hW2, hb1, hlt0, hbi, ho1, hC⟩ := HW2.out
  have k0 := hC w1 hb1 0 _ rfl
  have k1 := hC w1 hb1 1 _ rfl
  have k2 := hC w1 hb1 2 _ rfl
  have HC := Lib.hid hC
  have HB1 := Lib.hid hb1
  have HBW := Lib.hid hW2
  have HO1 := Lib.hid ho1
  have HBI := Lib.hid hbi
  clear hC hbi ho1 hb1 hW2 HW2
  cases b1
  case false =>
    go_wp2
    go_ret2
    exact ⟨.inr ⟨fun h => absurd (HBI.out.2 (HPP.out.1 h).1) (by decide), rfl⟩, HBW.out.trans (HB1.out.mono (Nat.le_of_lt hlt0))⟩
  case true =>
  have HS1 := Lib.hid (HBI.out.1 rfl)
  have ho1 : EnO w1 W2.heap.size (.slice o1 n1 c1) [E0] := HO1.out
  have HO1 := Lib.hid ho1
  clear HBI ho1
  have key : (c = 0 ∧ nx = 0) ∨ c ≠ 0 ∨ (c = 0 ∧ nx ≠ 0) := by omega
  rcases key with ⟨z1, z2⟩ | z1 | ⟨z1, z2⟩
  case' inl =>
    have HL0 : Hid (EnO w1 W2.heap.size (.slice none 0 0) H0) := Lib.hid (by rw [← HH0.out, if_pos ⟨z1, z2⟩]; exact ⟨rfl, .inl ⟨rfl, rfl⟩⟩)
    have y1 : (c == 0) = true := by simpa using z1
    have y2 : (nx == 0) = true := by simpa using z2
    clear z1 z2
    go_upto_region 6 with fail
  case' inr.inl =>
    have HL0 : Hid (EnO w1 W2.heap.size (.slice o1 n1 c1) H0) := Lib.hid (by rw [← HH0.out, if_neg (fun h => z1 h.1)]; exact HO1.out)
    have y1 : (c == 0) = false := by simpa using z1
    clear z1
    go_upto_region 6 with fail
  case' inr.inr =>
    have HL0 : Hid (EnO w1 W2.heap.size (.slice o1 n1 c1) H0) := Lib.hid (by rw [← HH0.out, if_neg (fun h => z2 h.2)]; exact HO1.out)
    have y1 : (c == 0) = true := by simpa using z1
    have y2 : (nx == 0) = false := by simpa using z2
    clear z1 z2
    go_upto_region 6 with fail
  all_goals
    clear k0 k1 HO1 HH0
    go_wp2
    go_loopg [4, 5, 35] dn (fun g V OK N wr => ∃ (k : Nat) (okb : Bool) (l : List En), k + g = dn ∧ OK = .bool okb ∧ N = .int .i64 k ∧ Hid ((okb = true ↔ ∀ j, j < k → prOk (df j)) ∧ (okb = true → l = H0 ++ defsN (fun a => prT (df a)) k) ∧ l.length ≤ 1 + 41 * k) ∧ Hid (EnO wr W2.heap.size V l) ∧ Hid (Below W2.heap.size W2 wr))
    case atStart => exact ⟨0, true, H0, by omega, rfl, rfl, Lib.hid ⟨⟨fun _ j hj => by omega, fun _ => rfl⟩, fun _ => by unfold defsN; simp, by have := H0L.out; omega⟩, HL0, HB1⟩
    case round =>
      obtain ⟨k, okb, l, hk, rfl, rfl, HK, HO, HB⟩ := hrel
      clear HL0
      by_cases hlt : k < dn
      · have hbw := HBW.out.trans (HB.out.mono (Nat.le_of_lt hlt0))
        obtain ⟨b, off, rfl, hb, hc⟩ := (HD.out.below hbw) k hlt
        have hxa := (HDA.out k hlt).below hbw
        have i1 : (k : Int) < (dn : Int) := by omega
        have i2 : (0 : Int) ≤ (k : Int) := by omega
        have hkk : k < 256 := by omega
        obtain ⟨x, hx⟩ : ∃ x, df k = x := ⟨_, rfl⟩
        rw [hx] at hc hxa
        have HFX : Hid x.fit := Lib.hid (by rw [← hx]; exact HDF.out k)
        have HX := Lib.hid hx
        have d0 := hc 0 _ rfl
        rw [Nat.add_zero] at d0
        have d1 := hc 1 _ rfl
        have d2 := hc 2 _ rfl
        have d3 := hc 3 _ rfl
        have hb2 : Below w.heap.size w (wr.alloc (.cells x.cs 64)) := hbw.alloc hbw.size _
        have hb2' : Below W2.heap.size W2 (wr.alloc (.cells x.cs 64)) := HB.out.alloc HB.out.size _
        have HB2' := Lib.hid hb2'
        have hb3 : Below wr.heap.size wr (wr.alloc (.cells x.cs 64)) := (Below.refl _ _).alloc (Nat.le_refl _) _
        have PC := Lib.hid (pieces_any k x (wr.alloc (.cells x.cs 64)) (HG.out.below hb2) (hxa.below hb3) HFX.out hkk)
        have ho2 := HO.out.below hb3
        have HO2 := Lib.hid ho2
        clear hx hc hxa hbw hb2 hb2' hb3 ho2
        go_upto_region 10 with (go_at_call 19; with_reducible refine PC.out.mono ?_; rintro e w2 ⟨ht, hb4⟩; obtain ⟨o2, n2, c2, b2, rfl, hc2, ht⟩ := told_of ht)
        obtain ⟨hbi, ht2⟩ := ht
        have hb5 : Below W2.heap.size W2 w2 := HB2'.out.trans (hb4.mono HB2'.out.size)
        have HB5 := Lib.hid hb5
        have hsz5 := hb5.size
        have ho5 := HO2.out.below hb4
        have hll := HK.out.2.2
        have hpl : (if b2 = true then piecesL k (prT x) else []).length ≤ 41 := by
          split
          · next h => exact pieces_len (hbi.1 h)
          · simp
        obtain ⟨q, hq⟩ : ∃ q, (if b2 = true then piecesL k (prT x) else []) = q := ⟨_, rfl⟩
        rw [hq] at ht2 hpl
        have hql := ht2.len
        have hbd : l.length + n2 ≤ 1000000 := by omega
        have HK5 : Hid (((okb && b2) = true ↔ ∀ j, j < k + 1 → prOk (df j)) ∧ ((okb && b2) = true → l ++ q = H0 ++ defsN (fun a => prT (df a)) (k + 1)) ∧ (l ++ q).length ≤ 1 + 41 * (k + 1)) := Lib.hid (by
          have h1 := HK.out.1
          have h2 := HK.out.2.1
          refine ⟨?_, ?_, by rw [List.length_append]; omega⟩
          · rw [Bool.and_eq_true, h1, hbi, ← HX.out]
            constructor
            · rintro ⟨p1, p2⟩ j hj
              by_cases e : j = k
              · subst e; exact p2
              · exact p1 j (by omega)
            · intro p
              exact ⟨fun j hj => p j (by omega), p k (by omega)⟩
          · intro h
            rw [Bool.and_eq_true] at h
            rw [h2 h.1, ← hq, if_pos h.2, defsN_snoc, List.append_assoc, HX.out])
        have HEN := Lib.hid ht2.en
        have HQL := Lib.hid hql.symm
        have HO5 := Lib.hid ho5
        clear hbi ht2 hql hb5 ho5 hb4 hll hpl HK hq
        cases okb <;> cases b2
        all_goals
          go_wp2_with (at_builtin; refine wpList_appen _ rfl (.tmp 46) (.tmp 47) rfl rfl HO5.out o2 _ n2 c2 rfl HQL.out HEN.out hbd hsz5 ?_)
          intro v' w4 ho6 hg6
          have HO6 : Hid (EnO w4 W2.heap.size v' (l ++ q)) := Lib.hid (by unfold EnO; rw [List.length_append, HQL.out]; simpa only [List.flatMap_append] using ho6)
          have HB6 : Hid (Below W2.heap.size W2 w4) := Lib.hid (HB5.out.trans (grown_below HO5.out hsz5 hg6))
          clear ho6 hg6
          go_wp2
          go_roundg (dn - (k + 1))
          case measure => omega
          case rel => exact ⟨k + 1, _, _, by omega, rfl, by go_num, HK5, HO6, HB6⟩
      · obtain rfl : k = dn := by omega
        obtain ⟨o0, c0, rfl, hc0, _⟩ := HO.out.ena
        have hw0 := HBW.out.trans (HB.out.mono (Nat.le_of_lt hlt0))
        have k3 := HC.out wr HB.out 3 _ rfl
        have A1 := Lib.hid (AI.out wr hw0)
        clear hw0
        go_upto_region 13 with (go_at_call 20; with_reducible refine A1.out.mono ?_; rintro e w2 hTL; obtain ⟨o2, n2, c2, b2, rfl, hc2, ht2, hb2⟩ := hTL.out)
        have hb2' : Below W2.heap.size W2 w2 := HB.out.trans (hb2.mono HB.out.size)
        have HB2 := Lib.hid hb2'
        have k4 := HC.out w2 hb2' 4 _ rfl
        have A2 := Lib.hid (AV.out w2 (HBW.out.trans (hb2'.mono (Nat.le_of_lt hlt0))))
        have HT2 := Lib.hid ht2
        have HS2 := Lib.hid hb2
        clear ht2 hb2 hb2' k3
        go_upto_region 14 with (go_at_call 22; with_reducible refine A2.out.mono ?_; rintro e w3 hTL; obtain ⟨o3, n3, c3, b3, rfl, hc3, ht3, hb3⟩ := hTL.out)
        have hb3' : Below W2.heap.size W2 w3 := HB2.out.trans (hb3.mono HB2.out.size)
        have HB3 := Lib.hid hb3'
        have k5 := HC.out w3 hb3' 5 _ rfl
        have A3 := Lib.hid (AW.out w3 (HBW.out.trans (hb3'.mono (Nat.le_of_lt hlt0))))
        have HT3 := Lib.hid ht3
        have HS3 := Lib.hid hb3
        clear ht3 hb3 hb3' k4
        go_upto_region 15 with (go_at_call 24; with_reducible refine A3.out.mono ?_; rintro e w4 hTL; obtain ⟨o4, n4, c4, b4, rfl, hc4, ht4, hb4⟩ := hTL.out)
        have hb4' : Below W2.heap.size W2 w4 := HB3.out.trans (hb4.mono HB3.out.size)
        have HB4 := Lib.hid hb4'
        have HT4 := Lib.hid ht4
        have hl0 := HK.out.2.2
        have e0 := EnO.below (EnO.below (EnO.below HO.out HS2.out) HS3.out) hb4
        have e2 := EnO.below (EnO.below HT2.out.2 HS3.out) hb4
        have e3 := EnO.below HT3.out.2 hb4
        have e4 := HT4.out.2
        have HE := Lib.hid (And.intro e0 (And.intro e2 (And.intro e3 e4)))
        have hbase4 : w.heap.size ≤ w4.heap.size := Nat.le_trans (Nat.le_of_lt hlt0) hb4'.size
        have HWB : Hid (Below w.heap.size w w4) := Lib.hid (HBW.out.trans (hb4'.mono (Nat.le_of_lt hlt0)))
        have HNO : okb = false ∨ b2 = false ∨ b3 = false ∨ b4 = false → Hid (¬ PP) := fun h => Lib.hid (fun hp => by
          obtain ⟨_, q1, q2, q3, q4⟩ := HPP.out.1 hp
          rcases h with rfl | rfl | rfl | rfl
          · exact absurd (HK.out.1.2 q1) (by decide)
          · exact absurd (HT2.out.1.2 q2) (by decide)
          · exact absurd (HT3.out.1.2 q3) (by decide)
          · exact absurd (HT4.out.1.2 q4) (by decide))
        have HNO := Lib.hid HNO
        clear ht4 hb4 hb4' k5 e0 e2 e3 e4 A1 A2 A3
        cases okb
        case false =>
          have HN := HNO.out (.inl rfl)
          go_wp2
          go_ret2
          exact ⟨.inr ⟨HN.out, rfl⟩, HWB.out⟩
        case true =>
        cases b2
        case false =>
          have HN := HNO.out (.inr (.inl rfl))
          go_wp2
          go_ret2
          exact ⟨.inr ⟨HN.out, rfl⟩, HWB.out⟩
        case true =>
        cases b3
        case false =>
          have HN := HNO.out (.inr (.inr (.inl rfl)))
          go_wp2
          go_ret2
          exact ⟨.inr ⟨HN.out, rfl⟩, HWB.out⟩
        case true =>
        cases b4
        case false =>
          have HN := HNO.out (.inr (.inr (.inr rfl)))
          go_wp2
          go_ret2
          exact ⟨.inr ⟨HN.out, rfl⟩, HWB.out⟩
        case true =>
        have HP : Hid PP := Lib.hid (HPP.out.2 ⟨HS1.out, HK.out.1.1 rfl, HT2.out.1.1 rfl, HT3.out.1.1 rfl, HT4.out.1.1 rfl⟩)
        obtain ⟨e0, e2, e3, e4⟩ := HE.out
        rw [if_pos rfl] at e2 e3 e4
        obtain rfl := e2.len
        obtain rfl := e3.len
        obtain rfl := e4.len
        have hal : Below w4.heap.size w4 (w4.alloc (.cells #[.slice o0 l.length c0, .slice o2 LI.length c2, .slice o3 LV.length c3, .slice o4 LW.length c4] 30)) := (Below.refl _ _).alloc (Nat.le_refl _) _
        have hcat := concat_en (some ⟨w4.heap.size, 0, none⟩) 4 4 _ _ _ (w4.alloc (.cells #[.slice o0 l.length c0, .slice o2 LI.length c2, .slice o3 LV.length c3, .slice o4 LW.length c4] 30)) (rows4 (heap_alloc_new _ _) (e0.en.below hal) (e2.en.below hal) (e3.en.below hal) (e4.en.below hal)) (by omega) (by have := HLL.out; rw [cat4]; simp only [List.length_append]; omega)
        rw [cat4] at hcat
        have hRL : l ++ (LI ++ (LV ++ LW)) = RL := by rw [HK.out.2.1 rfl, List.append_assoc]; exact HRL.out
        rw [hRL] at hcat
        have HCAT := Lib.hid hcat
        have HAL : Hid (Below w.heap.size w (w4.alloc (.cells #[.slice o0 l.length c0, .slice o2 LI.length c2, .slice o3 LV.length c3, .slice o4 LW.length c4] 30))) := Lib.hid (HWB.out.trans (hal.mono hbase4))
        clear e0 e2 e3 e4 hal hcat hRL
        go_wp2_with (go_at_call 26; with_reducible refine HCAT.out.mono ?_; rintro e w6 ⟨u, rfl, ho6, hb6⟩)
        go_ret2
        exact ⟨.inl ⟨HP.out, _, rfl, ho6.base (by simp; omega)⟩, HAL.out.trans (hb6.mono HAL.out.size)⟩
theorem tl_of {P : Prop} {l : List En} {W : World} {f : FuncId} {args : Array Value} (h : Calls Tryz.prog f args W fun e w' => ((P ∧ ∃ u, e = .returned (.tuple #[u, .bool true]) ∧ EnO w' W.heap.size u l) ∨ (¬ P ∧ e = .returned (.tuple #[.slice none 0 0, .bool false]))) ∧ Below W.heap.size W w') : Calls Tryz.prog f args W (TL P l W) := by
  refine h.mono ?_
  rintro e w' ⟨h1, h2⟩
  obtain ⟨o, n, c, b, e1, h3, h4⟩ := told_of h1
  exact ⟨o, n, c, b, e1, h3, h4, h2⟩
theorem keys_any {A : Nat → Nat × Nat} (s : Sm) (w : World) (hG : Gl A w) (h : s.at w) (hf : s.fit) (hs : s.small) :
    Calls Tryz.prog 7 #[.agg s.cs] w fun e w' => ((KeysOk s.st ∧ ∃ u, e = .returned (.tuple #[u, .int .i64 0]) ∧ EnO w' w.heap.size u (keysL s.st)) ∨ (¬ KeysOk s.st ∧ e = .returned (.tuple #[.slice none 0 0, .int .i64 4]))) ∧ Below w.heap.size w w' := by
  have hi := hs.i
  have hv := hs.v
  have hw := hs.w
  have K := keys_walk s.c s.nx s.dO s.iO s.cO s.wO s.dn s.dc s.im s.ic s.cn s.cc s.wn s.wc s.df w _ _ _ _ (shE s.sh) ((rowL s.itf s.im).map itE) ((rowL s.clf s.cn).map clE) ((rowL s.waf s.wn).map waE) hG h.d h.da hf.d hs.d
    (by simp only [List.length_map, rowL_len]; omega)
    (fun W g hg => tl_of (all_sh (some ⟨g, 0, none⟩) 1 1 (fun _ => s.sh) W (sh_row hg) (fun _ => trivial) (by omega)))
    (fun W hb => tl_of (all_it s.iO s.im s.ic s.itf W (h.i.below hb) hf.i (by omega)))
    (fun W hb => tl_of (all_cl s.cO s.cn s.cc s.clf W (h.v.below hb) hf.v (by omega)))
    (fun W hb => tl_of (all_wa s.wO s.wn s.wc s.waf W (h.w.below hb) hf.w (by omega)))
  rw [← keys_ok_iff] at K
  exact K
end Go.Proofs.YtjakdbahopbggaaGreatDoor
