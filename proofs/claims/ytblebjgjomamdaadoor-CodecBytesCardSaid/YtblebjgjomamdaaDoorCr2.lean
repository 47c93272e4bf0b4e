/- What the codec's reader reads: a variable, a list of variables, a list of texts. Conditions: the bytes are not too many. -/
import Derived.Test.YtblebjgjomamdaaDoorCx
import Derived.Test.YtblebjgjomamdaaDoorCe0
import Derived.Deep.LoopGhost
namespace Go.Wi
/-- up to n things, one behind the other, until something is bad -/
def rep {α : Type} (one : Cs → α × Cs) : Nat → Cs → List α × Cs
  | 0, c => ([], c)
  | n + 1, c => if c.bad then ([], c) else ((one c).1 :: (rep one n (one c).2).1, (rep one n (one c).2).2)
def Cs.list {α : Type} (one : Cs → α × Cs) (c : Cs) : List α × Cs := rep one c.num.1 c.num.2
theorem rep_len {α : Type} {one : Cs → α × Cs} (h : ∀ c, (one c).2.r.l.length ≤ c.r.l.length) : ∀ n c, (rep one n c).2.r.l.length ≤ c.r.l.length
  | 0, c => Nat.le_refl _
  | n + 1, c => by
    rw [rep]
    split
    · exact Nat.le_refl _
    · exact Nat.le_trans (rep_len h n _) (h c)
theorem Cs.list_len {α : Type} {one : Cs → α × Cs} (h : ∀ c, (one c).2.r.l.length ≤ c.r.l.length) (c : Cs) : (Cs.list one c).2.r.l.length ≤ c.r.l.length := Nat.le_trans (rep_len h _ _) c.num_len
theorem Rs.num_eat {most : Nat} {r : Rs} (h : (r.num most).1.2 = 0) : r.e = 0 ∧ (r.num most).2.l.length < r.l.length := by
  obtain ⟨l, e⟩ := r
  by_cases he : e = 0
  · subst he
    cases hn : (Rs.mk l 0).num most with
    | mk p r2 =>
      obtain ⟨n, c⟩ := p
      rw [hn] at h
      simp only at h
      subst h
      exact ⟨rfl, (Rs.num_ok hn).2.2.1⟩
  · have : (Rs.mk l e).num most = ((0, e), ⟨l, e⟩) := by simp [Rs.num, he]
    rw [this] at h
    exact absurd h he
theorem Rs.text_eat {m : Int} {r : Rs} (h : (r.text m).1.2 = 0) : r.e = 0 ∧ (r.text m).2.l.length < r.l.length := by
  obtain ⟨l, e⟩ := r
  by_cases he : e = 0
  · subst he
    cases hn : (Rs.mk l 0).text m with
    | mk p r2 =>
      obtain ⟨n, c⟩ := p
      rw [hn] at h
      simp only at h
      subst h
      exact ⟨rfl, (Rs.text_ok hn).2.1⟩
  · have : (Rs.mk l e).text m = (([], e), ⟨l, e⟩) := by simp [Rs.text, Rs.num, he]
    rw [this] at h
    exact absurd h he
theorem Cs.num_eats (c : Cs) (h : c.num.2.bad = false) : c.num.2.r.l.length < c.r.l.length := by
  simp only [Cs.num, Bool.or_eq_false_iff, decide_eq_false_iff_not, ne_eq, Decidable.not_not] at h
  exact (Rs.num_eat h.2).2
theorem Cs.text_eats (c : Cs) (h : c.text.2.bad = false) : c.text.2.r.l.length < c.r.l.length := by
  simp only [Cs.text, Bool.or_eq_false_iff, decide_eq_false_iff_not, ne_eq, Decidable.not_not] at h
  exact (Rs.text_eat h.2).2
end Go.Wi
namespace Go.Proofs.YtblebjgjomamdaaDoor
open Go.RowKit Go.Ow Go.Wi

/-- a variable that is read -/
def rdVar (c : Cs) : Va × Cs := (⟨⟨c.text.1.toArray⟩, c.text.2.r.value.1.1.k, c.text.2.r.value.1.1.n, ⟨c.text.2.r.value.1.1.t.toArray⟩⟩, ⟨c.text.2.r.value.2, c.text.2.bad || decide (c.text.2.r.value.1.2 ≠ 0)⟩)
def rdStr (c : Cs) : ByteArray × Cs := (⟨c.text.1.toArray⟩, c.text.2)
theorem rdVar_len (c : Cs) : (rdVar c).2.r.l.length ≤ c.r.l.length := Nat.le_trans (value_len _) c.text_len
theorem rdStr_len (c : Cs) : (rdStr c).2.r.l.length ≤ c.r.l.length := c.text_len
theorem rdVar_eats (c : Cs) (h : (rdVar c).2.bad = false) : (rdVar c).2.r.l.length < c.r.l.length := by
  simp only [rdVar, Bool.or_eq_false_iff] at h
  exact Nat.lt_of_le_of_lt (value_len _) (c.text_eats h.1)
theorem rdStr_eats (c : Cs) (h : (rdStr c).2.bad = false) : (rdStr c).2.r.l.length < c.r.l.length := c.text_eats h
def vcell (v : Va) : List Value := [.string v.nm, .int .u8 v.k, .int .i64 v.n, .string v.t]
def scell (v : ByteArray) : List Value := [.string v]
theorem vcell_one (v : Va) : ∀ u ∈ vcell v, u.oneCell' = true := by
  intro u hu
  simp only [vcell, List.mem_cons, List.not_mem_nil, or_false] at hu
  rcases hu with rfl | rfl | rfl | rfl <;> rfl
theorem scell_one (v : ByteArray) : ∀ u ∈ scell v, u.oneCell' = true := by
  intro u hu
  simp only [scell, List.mem_cons, List.not_mem_nil, or_false] at hu
  subst hu
  rfl
set_option maxRecDepth 100000 in
theorem info_var : (Tryd.prog.info? 49).map (fun i => (i.zero, i.size, i.bytes)) = some (some (.agg #[.string ⟨#[]⟩, .int .u8 0, .int .i64 0, .string ⟨#[]⟩]), 4, 48) := by kernel_rfl
theorem info_str : (Tryd.prog.info? 9).map (fun i => (i.zero, i.size, i.bytes)) = some (some (.string ⟨#[]⟩), 1, 16) := by kernel_rfl

theorem But.heap' {w : World} {k i : Nat} {cs : Array Value} {t : TypeId} {v : Value} (h : Blk w k cs t) : Blk (w.setCell ⟨k, i, none⟩ v) k (cs.setIfInBounds i v) t := But.heap h
theorem RdC.dr {w : World} {b B : Nat} {c : Cs} (h : RdC w b B c) : RdC w.drew b B c := ⟨h.wr, h.cr, h.ne⟩
theorem Blk.bu2 {w w' : World} {k b B : Nat} {cs : Array Value} {t : TypeId} (h : Blk w k cs t) (hb : Bu2 b B w w') (h1 : k ≠ b) (h2 : k ≠ B) : Blk w' k cs t := by
  unfold Blk
  rw [hb.block k h.lt h1 h2]
  exact h
theorem Blk.fz {w : World} {b : Nat} {cs : Array Value} {t : TypeId} (h : Blk w b cs t) (i : Nat) : w.frozen? ⟨b, i, none⟩ = false := by
  have h' : w.heap[b]? = some (.cells cs t (0, 0)) := h
  unfold World.frozen?
  rw [h']
  simp
theorem str_rd (b B : Nat) (c : Cs) (w : World) (h : RdC w b B c) (hl : c.r.l.length ≤ 10000) :
    Calls Tryd.prog 22 #[pt B] w fun e w' => e = .returned (.string (rdStr c).1) ∧ Bu2 b B w w' ∧ RdC w' b B (rdStr c).2 := text_rd b B c w h hl

set_option maxRecDepth 100000 in
set_option maxHeartbeats 2000000 in
theorem var_rd (b B C : Nat) (c : Cs) (w : World) (h : RdC w b B c) (hl : c.r.l.length ≤ 10000) (hC : w.cell? ⟨C, 0, none⟩ = some (pt B)) (hC1 : C < w.heap.size) (hC2 : C ≠ b) (hC3 : C ≠ B) :
    Calls Tryd.prog 42 #[pt C] w fun e w' => e = .returned (.agg #[.string (rdVar c).1.nm, .int .u8 (rdVar c).1.k, .int .i64 (rdVar c).1.n, .string (rdVar c).1.t]) ∧ Bu2 b B w w' ∧ RdC w' b B (rdVar c).2 := by
  have TA := text_rd b B c (w.alloc (.cells #[.string ⟨#[]⟩, .int .u8 0, .int .i64 0, .string ⟨#[]⟩] 49)) (h.al _) hl
  have hln := c.text_len
  have lt1 := Two.lt h.wr
  have lt2 := h.cr.lt
  have hne := h.ne
  unfold rdVar
  obtain ⟨⟨tx, r1, bd⟩, hq⟩ : ∃ q, c.text = q := ⟨_, rfl⟩
  rw [hq] at TA hln ⊢
  simp only at TA hln ⊢
  have VA := fun (w2 : World) (h2 : Wr.RdW w2 b r1) => Wr.valueW_any b r1 w2 h2 (by omega)
  obtain ⟨⟨⟨v, e⟩, r2⟩, hq2⟩ : ∃ q, r1.value = q := ⟨_, rfl⟩
  rw [hq2] at VA ⊢
  simp only at VA ⊢
  obtain ⟨vk, vn, vt⟩ := v
  simp only at VA ⊢
  have TA := Lib.hid TA
  have VA := Lib.hid VA
  have hCa : (w.alloc (.cells #[.string ⟨#[]⟩, .int .u8 0, .int .i64 0, .string ⟨#[]⟩] 49)).cell? ⟨C, 0, none⟩ = some (pt B) := by rw [World.cell?_alloc_some _ _ _ (by rw [hC]; rfl)]; exact hC
  have HCa := Lib.hid hCa
  have NE := Lib.hid hne
  have NC2 := Lib.hid hC2
  have NC3 := Lib.hid hC3
  clear hq hq2 h hl hln hCa hne hC2 hC3
  have main : ∀ d : Bool, Hid (((e : Int) != 0) = d ∧ decide (e ≠ 0) = d) → Calls Tryd.prog 42 #[pt C] w fun e w' => e = .returned (.agg #[Wr.str tx, .int .u8 vk, .int .i64 vn, Wr.str vt]) ∧ Bu2 b B w w' ∧ RdC w' b B ⟨r2, bd || d⟩ := by
    intro d hd
    have e1 := hd.out.1
    clear hd
    cases bd <;>
    · go_enter Tryd.func42, Tryd.ntmps42
      go_wp2_with (first
        | (go_at_call 22; with_reducible refine TA.out.mono ?_; rintro e w1 ⟨rfl, hb1, h1⟩; have A1 := Lib.hid (Blk.bu2 (blk_new w #[.string ⟨#[]⟩, .int .u8 0, .int .i64 0, .string ⟨#[]⟩] 49) hb1 (Nat.ne_of_gt lt1) (Nat.ne_of_gt lt2)); have C1 := Lib.hid ((hb1.cell (k := C) (o := 0) (by simp; omega) NC2.out NC3.out).trans HCa.out); have c1 := C1.out; have k0 := h1.cr.c0)
        | (go_at_call 43; with_reducible refine (VA.out w1 h1.wr).mono ?_; rintro e w2 ⟨rfl, hb2, h2⟩; have A2 := Lib.hid (A1.out.but hb2 (Nat.ne_of_gt lt1)); have cr2 := h1.cr.kept hb2 (Ne.symm NE.out); have c2 := (hb2.cell (k := C) (o := 0) (by have := hb1.size; simp at this; omega) NC2.out).trans C1.out; have t0 := cr2.c0; have t1 := cr2.c1; have u1 := cr2.fz 1; have sz2 : w.heap.size < w2.heap.size := A2.out.lt))
      have a0 := A2.out.c 0
      have a1 := A2.out.c 1
      have a2 := A2.out.c 2
      have a3 := A2.out.c 3
      have g0 := A2.out.fz 0
      have g1 := A2.out.fz 1
      have g2 := A2.out.fz 2
      have g3 := A2.out.fz 3
      have sC : C < w2.heap.size := by omega
      have sB : B < w2.heap.size := by omega
      have HB2 := Lib.hid ((((Bu2.refl b B w).al _).trans hb1).trans (.left hb2))
      have HR2 : Hid (∀ u, RdC (w2.setCell ⟨B, 1, none⟩ (.bool u)) b B ⟨r2, u⟩) := Lib.hid (fun u => ⟨Two.sn h2 1 _ NE.out, cr2.set1 _, NE.out⟩)
      clear hb1 hb2 h1 h2 cr2
      go_region
      go_wp2
      refine bodyPost_ret (v := .agg #[Wr.str tx, .int .u8 vk, .int .i64 vn, Wr.str vt]) (by simp [results, Tryd.results42, go_sem, *]) rfl ⟨rfl, ?_, ?_⟩
      · exact ((((((HB2.out.trans (.right (But.setCell B w2 1 _))).sn _ _ (Nat.le_refl _)).sn _ _ (Nat.le_refl _)).sn _ _ (Nat.le_refl _)).sn _ _ (Nat.le_refl _)).al _).dr 1
      · exact ((((((HR2.out _).sn _ _ (Nat.ne_of_lt lt1) (Nat.ne_of_lt lt2)).sn _ _ (Nat.ne_of_lt lt1) (Nat.ne_of_lt lt2)).sn _ _ (Nat.ne_of_lt lt1) (Nat.ne_of_lt lt2)).sn _ _ (Nat.ne_of_lt lt1) (Nat.ne_of_lt lt2)).al _).dr
  by_cases he : e = 0
  · subst he
    exact main false (Lib.hid ⟨rfl, rfl⟩)
  · have := main true (Lib.hid ⟨by rw [bne_iff_ne]; omega, by simpa using he⟩)
    rw [show decide (e ≠ 0) = true by simpa using he]
    exact this

set_option maxRecDepth 100000 in
set_option maxHeartbeats 4000000 in
theorem list_var (b B C : Nat) (c0 : Cs) (w : World) (h : RdC w b B c0) (hl : c0.r.l.length ≤ 10000) (hC : w.cell? ⟨C, 0, none⟩ = some (pt B)) (hC1 : C < w.heap.size) (hC2 : C ≠ b) (hC3 : C ≠ B) :
    Calls Tryd.prog 41 #[pt B, .func (.func 42) #[] #[pt C]] w fun e w' => ∃ u, e = .returned u ∧ w'.ownsRow w.heap.size 49 4 u (Cs.list rdVar c0).1.length ((Cs.list rdVar c0).1.flatMap vcell) ∧ Bu2 b B w w' ∧ RdC w' b B (Cs.list rdVar c0).2 := by
  have NA := num_rd b B c0 w h hl
  have hle := c0.num_le
  have hln := c0.num_len
  have lt1 := Two.lt h.wr
  have lt2 := h.cr.lt
  have HL0 := Lib.hid hl
  unfold Cs.list
  obtain ⟨⟨n0, c1⟩, hq⟩ : ∃ q, c0.num = q := ⟨_, rfl⟩
  rw [hq] at NA hle hln ⊢
  simp only at NA hle hln ⊢
  obtain ⟨i0, hi, hz0, hz1, hz2⟩ := info_parts info_var
  have NA := Lib.hid NA
  clear hq h
  obtain ⟨ys, c', hR⟩ : ∃ ys c', rep rdVar n0 c1 = (ys, c') := ⟨_, _, rfl⟩
  rw [hR]
  simp only
  have HR := Lib.hid hR
  clear hR
  go_enter Tryd.func41, Tryd.ntmps41
  go_wp2_with (go_at_call 44; with_reducible refine NA.out.mono ?_; rintro e w1 ⟨rfl, hb1, h1⟩)
  have HB1 := Lib.hid hb1
  have HC1 := Lib.hid h1
  clear hb1 h1 NA
  go_loopw [5, 6] (fun V N wr => ∃ (k : Nat) (xs : List Va) (c : Cs), k ≤ n0 ∧ N = .int .i64 k ∧ Hid (rep rdVar n0 c1 = (xs ++ (rep rdVar k c).1, (rep rdVar k c).2)) ∧ Hid (wr.ownsRow w.heap.size 49 4 V xs.length (xs.flatMap vcell)) ∧ Hid (Bu2 b B w wr) ∧ Hid (RdC wr b B c) ∧ Hid (xs.length + c.r.l.length ≤ c1.r.l.length + (if c.bad then 1 else 0)) ∧ Hid (c.r.l.length ≤ 10000)) (fun _ N _ => (intOf N).toNat)
  case atStart => exact ⟨n0, [], c1, Nat.le_refl _, rfl, Lib.hid rfl, Lib.hid ⟨rfl, .inl ⟨rfl, rfl⟩⟩, HB1, HC1, Lib.hid (by simp), Lib.hid (by have := HL0.out; omega)⟩
  case round =>
    obtain ⟨k, xs, c, hk, rfl, HP, HO, HB, HC, HX, HL⟩ := hrel
    have k1 := HC.out.cr.c1
    obtain ⟨r, bad⟩ := c
    simp only at k1
    cases k with
    | zero =>
      have e1 : ys = xs ∧ c' = ⟨r, bad⟩ := by have := HP.out; rw [HR.out] at this; simp only [rep, List.append_nil, Prod.mk.injEq] at this; exact this
      obtain ⟨rfl, rfl⟩ := e1
      go_wp2
      go_ret
      exact ⟨_, rfl, HO.out, HB.out, HC.out⟩
    | succ k =>
      cases bad
      case true =>
        have e1 : ys = xs ∧ c' = ⟨r, true⟩ := by have := HP.out; rw [HR.out] at this; simp only [rep, if_true, List.append_nil, Prod.mk.injEq] at this; exact this
        obtain ⟨rfl, rfl⟩ := e1
        go_wp2
        go_ret
        exact ⟨_, rfl, HO.out, HB.out, HC.out⟩
      case false =>
        have HP2 := HP.out
        simp only [rep, Bool.false_eq_true, if_false] at HP2
        have hx := HX.out
        simp only [Bool.false_eq_true, if_false] at hx
        have ON := var_rd b B C ⟨r, false⟩ wr HC.out HL.out (by rw [HB.out.cell hC1 hC2 hC3]; exact hC) (Nat.lt_of_lt_of_le hC1 HB.out.size) hC2 hC3
        have ea := rdVar_eats ⟨r, false⟩
        have ln := rdVar_len ⟨r, false⟩
        obtain ⟨⟨x, c2⟩, hq⟩ : ∃ q, rdVar ⟨r, false⟩ = q := ⟨_, rfl⟩
        rw [hq] at HP2 ON ea ln
        simp only at HP2 ON ea ln
        have HX2 : Hid ((xs ++ [x]).length + c2.r.l.length ≤ c1.r.l.length + (if c2.bad then 1 else 0)) := Lib.hid (by
          rw [List.length_append, List.length_singleton]
          cases hb2 : c2.bad
          · have := ea hb2
            simp only [Bool.false_eq_true, if_false]
            omega
          · simp only [if_true]
            omega)
        have HL2 : Hid (c2.r.l.length ≤ 10000) := Lib.hid (by have := HL.out; simp only at this; omega)
        have HP3 : Hid (rep rdVar n0 c1 = (xs ++ [x] ++ (rep rdVar k c2).1, (rep rdVar k c2).2)) := Lib.hid (by rw [HP2, List.append_assoc]; rfl)
        have hxs : xs.length ≤ 100000 := by have := HL0.out; omega
        have ON := Lib.hid ON
        have HXS := Lib.hid hxs
        have HBS : w.heap.size ≤ wr.heap.size := HB.out.size
        have HBSh := Lib.hid HBS
        have LT1 := Lib.hid lt1
        have LT2 := Lib.hid lt2
        clear hq HP2 ea ln HP HX HL hx hln
        go_wp2_with (first
          | (go_at_call 42; with_reducible refine ON.out.mono ?_; rintro e w3 ⟨rfl, hb3, h3⟩; have HO3 := Lib.hid (ownC_bu2 HO.out hb3 LT1.out LT2.out); have hs3 := hb3.size)
          | (at_builtin; refine wpList_appown _ rfl (.tmp 20) (.tmp 23) 24 rfl i0 _ 4 48 Tryd.underlying24 hi hz0 hz1 hz2 rfl (by decide) rfl (ownC_al HO3.out _) w3.heap.size 1 #[.string x.nm, .int .u8 x.k, .int .i64 x.n, .string x.t] 49 rfl (heap_alloc_new _ _) rfl ?d1 HXS.out (by decide) ?d2 ?_))
        case d1 => exact ⟨rfl, rfl, rfl, rfl⟩
        case d2 => simp; omega
        intro v' w4 ho4 hg4
        have HG := Lib.hid hg4
        have hrow : ∀ g, Value.ownBlock _ = some g → w.heap.size ≤ g := fun g hg => (ownC_blk HO3.out g hg).1
        have hb5 := Bu2.grown ((HB.out.trans hb3).al _) hg4 hrow
        have h5 := (h3.al _).grown hg4 hrow LT1.out LT2.out
        have HO5 : Hid (w4.ownsRow w.heap.size 49 4 v' (xs ++ [x]).length ((xs ++ [x]).flatMap vcell)) := Lib.hid (by rw [List.length_append, List.length_singleton, List.flatMap_append]; exact ho4)
        clear ho4 hg4 hrow
        go_wp2
        go_roundw
        case rel => exact ⟨k, xs ++ [x], c2, by omega, by go_num, HP3, HO5, Lib.hid hb5, Lib.hid h5, HX2, HL2⟩
        case measure => simp [intOf]
set_option maxRecDepth 100000 in
set_option maxHeartbeats 4000000 in
theorem list_str (b B : Nat) (c0 : Cs) (w : World) (h : RdC w b B c0) (hl : c0.r.l.length ≤ 10000) :
    Calls Tryd.prog 47 #[pt B, .func (.func 22) #[pt B] #[]] w fun e w' => ∃ u, e = .returned u ∧ w'.ownsRow w.heap.size 9 1 u (Cs.list rdStr c0).1.length ((Cs.list rdStr c0).1.flatMap scell) ∧ Bu2 b B w w' ∧ RdC w' b B (Cs.list rdStr c0).2 := by
  have NA := num_rd b B c0 w h hl
  have hle := c0.num_le
  have hln := c0.num_len
  have lt1 := Two.lt h.wr
  have lt2 := h.cr.lt
  have HL0 := Lib.hid hl
  unfold Cs.list
  obtain ⟨⟨n0, c1⟩, hq⟩ : ∃ q, c0.num = q := ⟨_, rfl⟩
  rw [hq] at NA hle hln ⊢
  simp only at NA hle hln ⊢
  obtain ⟨i0, hi, hz0, hz1, hz2⟩ := info_parts info_str
  have NA := Lib.hid NA
  clear hq h
  obtain ⟨ys, c', hR⟩ : ∃ ys c', rep rdStr n0 c1 = (ys, c') := ⟨_, _, rfl⟩
  rw [hR]
  simp only
  have HR := Lib.hid hR
  clear hR
  go_enter Tryd.func47, Tryd.ntmps47
  go_wp2_with (go_at_call 44; with_reducible refine NA.out.mono ?_; rintro e w1 ⟨rfl, hb1, h1⟩)
  have HB1 := Lib.hid hb1
  have HC1 := Lib.hid h1
  clear hb1 h1 NA
  go_loopw [5, 6] (fun V N wr => ∃ (k : Nat) (xs : List ByteArray) (c : Cs), k ≤ n0 ∧ N = .int .i64 k ∧ Hid (rep rdStr n0 c1 = (xs ++ (rep rdStr k c).1, (rep rdStr k c).2)) ∧ Hid (wr.ownsRow w.heap.size 9 1 V xs.length (xs.flatMap scell)) ∧ Hid (Bu2 b B w wr) ∧ Hid (RdC wr b B c) ∧ Hid (xs.length + c.r.l.length ≤ c1.r.l.length + (if c.bad then 1 else 0)) ∧ Hid (c.r.l.length ≤ 10000)) (fun _ N _ => (intOf N).toNat)
  case atStart => exact ⟨n0, [], c1, Nat.le_refl _, rfl, Lib.hid rfl, Lib.hid ⟨rfl, .inl ⟨rfl, rfl⟩⟩, HB1, HC1, Lib.hid (by simp), Lib.hid (by have := HL0.out; omega)⟩
  case round =>
    obtain ⟨k, xs, c, hk, rfl, HP, HO, HB, HC, HX, HL⟩ := hrel
    have k1 := HC.out.cr.c1
    obtain ⟨r, bad⟩ := c
    simp only at k1
    cases k with
    | zero =>
      have e1 : ys = xs ∧ c' = ⟨r, bad⟩ := by have := HP.out; rw [HR.out] at this; simp only [rep, List.append_nil, Prod.mk.injEq] at this; exact this
      obtain ⟨rfl, rfl⟩ := e1
      go_wp2
      go_ret
      exact ⟨_, rfl, HO.out, HB.out, HC.out⟩
    | succ k =>
      cases bad
      case true =>
        have e1 : ys = xs ∧ c' = ⟨r, true⟩ := by have := HP.out; rw [HR.out] at this; simp only [rep, if_true, List.append_nil, Prod.mk.injEq] at this; exact this
        obtain ⟨rfl, rfl⟩ := e1
        go_wp2
        go_ret
        exact ⟨_, rfl, HO.out, HB.out, HC.out⟩
      case false =>
        have HP2 := HP.out
        simp only [rep, Bool.false_eq_true, if_false] at HP2
        have hx := HX.out
        simp only [Bool.false_eq_true, if_false] at hx
        have ON := str_rd b B ⟨r, false⟩ wr HC.out HL.out
        have ea := rdStr_eats ⟨r, false⟩
        have ln := rdStr_len ⟨r, false⟩
        obtain ⟨⟨x, c2⟩, hq⟩ : ∃ q, rdStr ⟨r, false⟩ = q := ⟨_, rfl⟩
        rw [hq] at HP2 ON ea ln
        simp only at HP2 ON ea ln
        have HX2 : Hid ((xs ++ [x]).length + c2.r.l.length ≤ c1.r.l.length + (if c2.bad then 1 else 0)) := Lib.hid (by
          rw [List.length_append, List.length_singleton]
          cases hb2 : c2.bad
          · have := ea hb2
            simp only [Bool.false_eq_true, if_false]
            omega
          · simp only [if_true]
            omega)
        have HL2 : Hid (c2.r.l.length ≤ 10000) := Lib.hid (by have := HL.out; simp only at this; omega)
        have HP3 : Hid (rep rdStr n0 c1 = (xs ++ [x] ++ (rep rdStr k c2).1, (rep rdStr k c2).2)) := Lib.hid (by rw [HP2, List.append_assoc]; rfl)
        have hxs : xs.length ≤ 100000 := by have := HL0.out; omega
        have ON := Lib.hid ON
        have HXS := Lib.hid hxs
        have HBS : w.heap.size ≤ wr.heap.size := HB.out.size
        have HBSh := Lib.hid HBS
        have LT1 := Lib.hid lt1
        have LT2 := Lib.hid lt2
        clear hq HP2 ea ln HP HX HL hx hln
        go_wp2_with (first
          | (go_at_call 22; with_reducible refine ON.out.mono ?_; rintro e w3 ⟨rfl, hb3, h3⟩; have HO3 := Lib.hid (ownC_bu2 HO.out hb3 LT1.out LT2.out); have hs3 := hb3.size)
          | (at_builtin; refine wpList_appown _ rfl (.tmp 20) (.tmp 23) 39 rfl i0 _ 1 16 Tryd.underlying39 hi hz0 hz1 hz2 rfl (by decide) rfl (ownC_al HO3.out _) w3.heap.size 1 #[.string x] 9 rfl (heap_alloc_new _ _) rfl ?d1 HXS.out (by decide) ?d2 ?_))
        case d1 => rfl
        case d2 => simp; omega
        intro v' w4 ho4 hg4
        have HG := Lib.hid hg4
        have hrow : ∀ g, Value.ownBlock _ = some g → w.heap.size ≤ g := fun g hg => (ownC_blk HO3.out g hg).1
        have hb5 := Bu2.grown ((HB.out.trans hb3).al _) hg4 hrow
        have h5 := (h3.al _).grown hg4 hrow LT1.out LT2.out
        have HO5 : Hid (w4.ownsRow w.heap.size 9 1 v' (xs ++ [x]).length ((xs ++ [x]).flatMap scell)) := Lib.hid (by rw [List.length_append, List.length_singleton, List.flatMap_append]; exact ho4)
        clear ho4 hg4 hrow
        go_wp2
        go_roundw
        case rel => exact ⟨k, xs ++ [x], c2, by omega, by go_num, HP3, HO5, Lib.hid hb5, Lib.hid h5, HX2, HL2⟩
        case measure => simp [intOf]

end Go.Proofs.YtblebjgjomamdaaDoor
