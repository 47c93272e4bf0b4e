/- What save.pieces returns: the entries of a process. Conditions: a process as Encode wants it. -/
import Derived.Test.YtjakdbahopbggaaGreatDoorZK31
import Derived.Test.YtjakdbahopbggaaGreatDoorZK25
import Derived.Test.YtjakdbahopbggaaGreatDoorZInv2
namespace Go.Proofs.YtjakdbahopbggaaGreatDoor
open Go.RowKit Go.Ow Go.Wi Go.Inv2

set_option maxRecDepth 100000 in
theorem pieces_no (at_ : Nat) (x : Pr) (c : Nat) (w : World) (hc : c ≠ 0) (HE : ∀ W, Below w.heap.size w W → Calls Tryz.prog 39 #[.agg x.cs] W fun r w' => r = .returned (.tuple #[.string ⟨#[]⟩, .int .i64 c]) ∧ Below W.heap.size W w') :
    Calls Tryz.prog 19 #[.int .i64 at_, .agg x.cs] w fun e w' => e = .returned (.tuple #[.slice none 0 0, .bool false]) ∧ Below w.heap.size w w' := by
  have HB := Lib.hid ((Below.refl w.heap.size w).alloc (Nat.le_refl _) (.cells x.cs 64))
  have HE := Lib.hid HE
  have hc1 : ((c : Int) == 0) = false := by simp; omega
  go_enter Tryz.func19, Tryz.ntmps19
  go_wp2_with (go_at_call 39; refine (HE.out _ HB.out).mono ?_; rintro e w1 ⟨rfl, hb1⟩)
  have HB1 := Lib.hid (below_step HB.out hb1)
  clear hb1
  go_loopg [6, 8, 9] 0 (fun g S V N wr => S = .string ⟨#[]⟩ ∧ V = .slice none 0 0 ∧ N = .int .i64 0 ∧ Hid (Below w.heap.size w wr))
  case atStart => exact ⟨rfl, rfl, rfl, HB1⟩
  case round =>
    obtain ⟨rfl, rfl, rfl, HB2⟩ := hrel
    go_wp2
    go_ret2
    exact ⟨by rfl, HB2.out⟩
theorem wrap8 {n : Nat} (h : n < 256) : IntKind.u8.wrap (n : Int) = n := by
  unfold IntKind.wrap
  simp [IntKind.bits, IntKind.signed]
  omega
theorem one_ena {w : World} {g : Nat} {e : En} (h : w.heap[g]? = some (.cells #[strL' e.k, strL' e.v] 42 (0, 0))) : EnA w (some ⟨g, 0, none⟩) [e] := fun k x hk => by
  match k with
  | 0 =>
    simp only [List.getElem?_cons_zero, Option.some.injEq] at hk
    subst hk
    exact ⟨g, 0, rfl, (Array.getElem?_eq_some_iff.1 h).1, by rw [cell_of_row w g _ _ _ (0, 0) h]; rfl, by rw [cell_of_row w g _ _ _ (0, 0) h]; rfl⟩
  | k + 1 => simp at hk
theorem grown_below {w W : World} {B C n : Nat} {e : TypeId} {u : Value} {xs : List Value} (h : w.ownsRow B e C u n xs) (hB : B ≤ w.heap.size) (hg : w.grownBy W u.ownBlock) : Below B w W :=
  ⟨hg.os, hg.tape, hg.output, hg.size, fun b hb => hg.block b (by omega) (fun he => by have := (ownC_blk h b he.symm).1; omega)⟩
theorem three_str {w : World} {g : Nat} (a c : Nat) (ha : a < 256) (hc : c < 256) (h : w.heap[g]? = some (.cells #[.int .u8 100, .int .u8 a, .int .u8 c] 5 (0, 0))) : (convert 99 9 (.slice (some ⟨g, 0, none⟩) 3 3)).run Tryz.prog w = .ok (strL' [100, UInt8.ofNat a, UInt8.ofNat c]) w := by
  refine run_convert_bytes_back (P := Tryz.prog) w 99 9 5 ⟨g, 0, none⟩ 3 [100, UInt8.ofNat a, UInt8.ofNat c] Tryz.underlying99 Tryz.underlying5 Tryz.underlying9 (fun j hj => ?_)
  rw [Addr.add_lit, cell_of_row w g _ _ _ (0, 0) h]
  have hj' : j = 0 ∨ j = 1 ∨ j = 2 := by simp at hj; omega
  rcases hj' with rfl | rfl | rfl
  · rfl
  · simp; omega
  · simp; omega
theorem ext_take (l : List UInt8) (n : Nat) : (⟨l.toArray⟩ : ByteArray).extract 0 n = ⟨(l.take n).toArray⟩ := by
  apply ByteArray.ext
  rw [ByteArray.data_extract]
  simp
theorem ext_dropL (l : List UInt8) (n : Nat) : (⟨l.toArray⟩ : ByteArray).extract n l.length = ⟨(l.drop n).toArray⟩ := by
  apply ByteArray.ext
  rw [ByteArray.data_extract]
  simp
  rw [List.take_of_length_le (by simp)]

/-- what each operation of the region leaves -/
def pieF (B k a n : Nat) (u0 : Value) (rows : List En) (e : En) (L : List UInt8) : Nat → Value → List Value → World → Prop
  | 0, u, _, _ => u = u0
  | 1, u, _, _ => u = .int .i64 a
  | 2, u, _, _ => u = .int .u8 a
  | 3, u, _, _ => u = .int .i64 k
  | 4, u, _, _ => u = .int .u8 k
  | 5, u, _, w => ∃ g, u = .slice (some ⟨g, 0, none⟩) 3 3 ∧ B ≤ g ∧ w.heap[g]? = some (.cells #[.int .u8 100, .int .u8 a, .int .u8 k] 5 (0, 0))
  | 6, u, _, _ => u = strL' e.k
  | 7, u, _, _ => u = strL' L
  | 8, u, _, _ => u = .int .i64 n
  | 9, u, _, _ => u = strL' e.v
  | 10, u, _, _ => u = .agg #[strL' e.k, strL' e.v]
  | 11, u, _, w => ∃ g, u = .slice (some ⟨g, 0, none⟩) 1 1 ∧ B ≤ g ∧ w.heap[g]? = some (.cells #[strL' e.k, strL' e.v] 42 (0, 0))
  | 12, u, _, w => w.ownsRow B 42 2 u (k + 1) ((rows ++ [e]).flatMap enC)
  | 13, u, ds, _ => u = ds.getD 0 undef
  | 14, _, _, w => w.ownsRow B 42 2 u0 k (rows.flatMap enC)
  | _, _, _, _ => True
def pieAnc (i : Nat) : List Nat := ([[], [], [1], [], [3], [1, 2, 3, 4], [1, 2, 3, 4, 5], [], [], [7, 8], [1, 2, 3, 4, 5, 6, 7, 8, 9], [1, 2, 3, 4, 5, 6, 7, 8, 9, 10], [0, 1, 2, 3, 4, 5, 6, 7, 8, 9, 10, 11], [0, 1, 2, 3, 4, 5, 6, 7, 8, 9, 10, 11, 12]] : List (List Nat)).getD i []
def pieNeed (i : Nat) : List Nat := ([[], [], [1], [], [3], [2, 4], [5], [], [], [7, 8], [6, 9], [10], [0, 11, 14], [12]] : List (List Nat)).getD i []
def pieDep (i : Nat) : List Nat := ([[], [], [], [], [], [], [], [], [], [], [], [], [], [12]] : List (List Nat)).getD i []
def pieKill (i j : Nat) : Bool := (i == 12 && j == 14) || (i == 12 && j == 11) || (i == 12 && j == 5)
def piePure (j : Nat) : Bool := !([5, 11, 12, 14].contains j)
theorem pieF_pure {j : Nat} {u : Value} {ds : List Value} {w w' : World} {B k a n : Nat} {u0 : Value} {rows : List En} {e : En} {L : List UInt8} (hp : piePure j = true) (h : pieF B k a n u0 rows e L j u ds w) : pieF B k a n u0 rows e L j u ds w' := by
  match j with
  | 0 => exact h
  | 1 => exact h
  | 2 => exact h
  | 3 => exact h
  | 4 => exact h
  | 5 => exact absurd hp (by decide)
  | 6 => exact h
  | 7 => exact h
  | 8 => exact h
  | 9 => exact h
  | 10 => exact h
  | 11 => exact absurd hp (by decide)
  | 12 => exact absurd hp (by decide)
  | 13 => exact h
  | 14 => exact absurd hp (by decide)
  | _ + 15 => trivial
theorem pieF_mono {j : Nat} {u : Value} {ds : List Value} {w w' : World} {B k a n : Nat} {u0 : Value} {rows : List En} {e : En} {L : List UInt8} (hb : Below w.heap.size w w') (h : pieF B k a n u0 rows e L j u ds w) : pieF B k a n u0 rows e L j u ds w' := by
  match j with
  | 0 => exact h
  | 1 => exact h
  | 2 => exact h
  | 3 => exact h
  | 4 => exact h
  | 5 => obtain ⟨g, a1, a2, a3⟩ := h; exact ⟨g, a1, a2, by rw [hb.block g (Array.getElem?_eq_some_iff.1 a3).1]; exact a3⟩
  | 6 => exact h
  | 7 => exact h
  | 8 => exact h
  | 9 => exact h
  | 10 => exact h
  | 11 => obtain ⟨g, a1, a2, a3⟩ := h; exact ⟨g, a1, a2, by rw [hb.block g (Array.getElem?_eq_some_iff.1 a3).1]; exact a3⟩
  | 12 => exact ownC_mono h hb
  | 13 => exact h
  | 14 => exact ownC_mono h hb
  | _ + 15 => trivial
theorem pieKeep (x : List Nat) {i : Nat} (h : ((List.range 15).all fun j => piePure j || j == i || pieKill i j || (pieAnc j).contains i || x.contains j) = true) {w w' : World} {B k a n : Nat} {u0 : Value} {rows : List En} {e : En} {L : List UInt8} : ∀ j (vs' : Nat → Value), j ≠ i → pieKill i j = false → (pieAnc j).contains i = false → (x.contains j = false) →
    asrt (pieF B k a n u0 rows e L) pieDep j vs' w → asrt (pieF B k a n u0 rows e L) pieDep j vs' w' := by
  intro j vs' h1 h2 h3 h0 h4
  by_cases hj : j < 15
  · have := List.all_eq_true.1 h j (List.mem_range.2 hj)
    rw [h2, h3, h0] at this
    simp only [Bool.or_false, Bool.or_eq_true, beq_iff_eq] at this
    rcases this with h5 | h5
    · exact pieF_pure h5 h4
    · exact absurd h5 h1
  · exact pieF_pure (by unfold piePure; simp; omega) h4
theorem pieAnc_out {j : Nat} (h : 14 ≤ j) : pieAnc j = [] := by
  unfold pieAnc
  rw [List.getD_eq_getElem?_getD, List.getElem?_eq_none (by simpa using h)]
  rfl
theorem pieDep_out {j : Nat} (h : 14 ≤ j) : pieDep j = [] := by
  unfold pieDep
  rw [List.getD_eq_getElem?_getD, List.getElem?_eq_none (by simpa using h)]
  rfl
theorem pieDep_anc : ∀ j, ∀ d ∈ pieDep j, d ∈ pieAnc j := by
  intro j d hd
  by_cases h : j < 14
  · exact (by decide : ∀ j, j < 14 → ∀ d ∈ pieDep j, d ∈ pieAnc j) j h d hd
  · rw [pieDep_out (by omega)] at hd
    cases hd
set_option maxRecDepth 100000 in
set_option maxHeartbeats 8000000 in
theorem pieces_yes (at_ : Nat) (x : Pr) (T : List UInt8) (w : World) (hl : T.length ≤ 4000) (hat : at_ < 256) (HE : ∀ W, Below w.heap.size w W → Calls Tryz.prog 39 #[.agg x.cs] W fun r w' => r = .returned (.tuple #[strL' T, .int .i64 0]) ∧ Below W.heap.size W w') :
    Calls Tryz.prog 19 #[.int .i64 at_, .agg x.cs] w fun e w' => (∃ u, e = .returned (.tuple #[u, .bool true]) ∧ EnO w' w.heap.size u (piecesL at_ T)) ∧ Below w.heap.size w w' := by
  have HB := Lib.hid ((Below.refl w.heap.size w).alloc (Nat.le_refl _) (.cells x.cs 64))
  have HE := Lib.hid HE
  have hw8 := wrap8 hat
  go_enter Tryz.func19, Tryz.ntmps19
  go_wp2_with (go_at_call 39; refine (HE.out _ HB.out).mono ?_; rintro e w1 ⟨rfl, hb1⟩)
  have HB1 := Lib.hid (below_step HB.out hb1)
  clear hb1
  go_loopg [6, 8, 9] T.length (fun g S V N wr => ∃ k : Nat, T.length - 100 * k ≤ g ∧ 100 * k < T.length + 100 ∧ S = strL' (T.drop (100 * k)) ∧ N = .int .i64 k ∧ Hid (wr.ownsRow w.heap.size 42 2 V k ((rowL (enPart at_ T) k).flatMap enC)) ∧ Hid (Below w.heap.size w wr))
  case atStart => exact ⟨0, by omega, by omega, rfl, rfl, Lib.hid ⟨rfl, .inl ⟨rfl, rfl⟩⟩, HB1⟩
  case round =>
    obtain ⟨k, hg, hk, rfl, rfl, HO, HB2⟩ := hrel
    by_cases hz : T.length ≤ 100 * k
    · have e0 : T.drop (100 * k) = [] := List.drop_eq_nil_of_le hz
      rw [e0]
      go_wp2
      go_ret2
      have e1 : (T.length + 99) / 100 = k := by omega
      exact ⟨⟨_, rfl, by unfold piecesL EnO; rw [e1, rowL_len]; exact HO.out⟩, HB2.out⟩
    · obtain ⟨L, hL⟩ : ∃ L, T.drop (100 * k) = L := ⟨_, rfl⟩
      have hlen : L.length = T.length - 100 * k := by rw [← hL]; simp
      have HL := Lib.hid hL
      have HLEN := Lib.hid hlen
      rw [hL]
      have hne : L.isEmpty = false := by
        cases L with
        | nil => simp at hlen; omega
        | cons a r => rfl
      have hk8 := wrap8 (n := k) (by omega)
      have hkb : k < 256 := by omega
      clear hL hlen
      go_upto_region 7 with fail
      rw [show min ((L.length : Nat) : Int) 100 = ((min L.length 100 : Nat) : Int) by omega]
      obtain ⟨n, hn⟩ : ∃ n, min L.length 100 = n := ⟨_, rfl⟩
      have HNN := Lib.hid hn
      have hn1 : n ≤ L.length := by omega
      rw [hn]
      obtain ⟨e, he⟩ : ∃ e, enPart at_ T k = e := ⟨_, rfl⟩
      have HEK : Hid (e.k = [100, UInt8.ofNat at_, UInt8.ofNat k] ∧ e.v = L.take n) := Lib.hid (by
        rw [← he]
        refine ⟨rfl, ?_⟩
        show (T.drop (100 * k)).take 100 = _
        rw [HL.out, ← hn]
        by_cases h : L.length ≤ 100
        · rw [Nat.min_eq_left h, List.take_of_length_le h, List.take_of_length_le (Nat.le_refl _)]
        · rw [Nat.min_eq_right (by omega)])
      have HEE := Lib.hid he
      clear he hn
      refine wp_region_asrt (by kernel_rfl) (Below w.heap.size w) (pieF w.heap.size k at_ n u8 (rowL (enPart at_ T) k) e L) pieDep pieNeed pieAnc pieKill 14 [some 23, some 24, some 25, some 26, some 27, some 28, some 29, some 30, some 31, some 32, some 33, some 34, some 35, some 8] rfl rfl (by kernel_rfl) pieDep_anc HB2.out.drew (fun j h => pieAnc_out h) (fun j h => by
          by_cases e1 : j = 14
          · subst e1; exact ownC_mono HO.out ((Below.refl _ _).drew)
          have e3 : 15 ≤ j := by omega
          match j, e3 with
          | _ + 15, _ => trivial) (fun j h => pieDep_out h) ⟨?_, ?_, ?_, ?_, ?_, ?_, ?_, ?_, ?_, ?_, ?_, ?_, ?_, ?_, trivial⟩ ?_
      · refine Step.mk (oi := _) rfl [] (fun cs b h => by cases h) (by kernel_rfl) (fun vs W hI hA => ?_)
        simp only [List.map]
        simp only [putR]
        refine SOp.val (v := u8) (w' := W) (by kernel_rfl) (by go_simp) ⟨hI, upd_self _ _ _, fun _ _ _ _ _ h => h⟩
      · refine Step.mk (oi := _) rfl [] (fun cs b h => by cases h) (by kernel_rfl) (fun vs W hI hA => ?_)
        simp only [List.map]
        simp only [putR]
        refine SOp.val (v := .int .i64 at_) (w' := W) (by kernel_rfl) (by go_simp) ⟨hI, upd_self _ _ _, fun _ _ _ _ _ h => h⟩
      · refine Step.mk (oi := _) rfl [(24, 1)] (fun cs b h => by cases h) (by kernel_rfl) (fun vs W hI hA => ?_)
        simp only [List.map]
        have h1 : vs 1 = .int .i64 at_ := hA 1 (by decide)
        rw [h1]
        simp only [putR, Act.put, List.setIfInBounds_toArray, List.set_cons_zero, List.set_cons_succ]
        refine SOp.val (v := .int .u8 at_) (w' := W) (by kernel_rfl) (by go_simp <;> first | rw [hw8] | rw [hk8]) ⟨hI, upd_self _ _ _, fun _ _ _ _ _ h => h⟩
      · refine Step.mk (oi := _) rfl [] (fun cs b h => by cases h) (by kernel_rfl) (fun vs W hI hA => ?_)
        simp only [List.map]
        simp only [putR]
        refine SOp.val (v := .int .i64 k) (w' := W) (by kernel_rfl) (by go_simp) ⟨hI, upd_self _ _ _, fun _ _ _ _ _ h => h⟩
      · refine Step.mk (oi := _) rfl [(26, 3)] (fun cs b h => by cases h) (by kernel_rfl) (fun vs W hI hA => ?_)
        simp only [List.map]
        have h3 : vs 3 = .int .i64 k := hA 3 (by decide)
        rw [h3]
        simp only [putR, Act.put, List.setIfInBounds_toArray, List.set_cons_zero, List.set_cons_succ]
        refine SOp.val (v := .int .u8 k) (w' := W) (by kernel_rfl) (by go_simp <;> first | rw [hw8] | rw [hk8]) ⟨hI, upd_self _ _ _, fun _ _ _ _ _ h => h⟩
      · refine Step.mk (oi := _) rfl [(25, 2), (27, 4)] (fun cs b h => by cases h) (by kernel_rfl) (fun vs W hI hA => ?_)
        simp only [List.map]
        have h2 : vs 2 = .int .u8 at_ := hA 2 (by decide)
        have h4 : vs 4 = .int .u8 k := hA 4 (by decide)
        rw [h2, h4]
        simp only [putR, Act.put, List.setIfInBounds_toArray, List.set_cons_zero, List.set_cons_succ]
        refine SOp.val (v := .slice (some ⟨W.heap.size, 0, none⟩) 3 3) (w' := W.alloc (.cells #[.int .u8 100, .int .u8 at_, .int .u8 k] 5)) (by kernel_rfl) (by go_simp) ⟨hI.alloc hI.size _, ⟨W.heap.size, upd_self _ _ _, hI.size, heap_alloc_new _ _⟩, fun _ _ _ _ _ h => pieF_mono ((Below.refl _ _).alloc (Nat.le_refl _) _) h⟩
      · refine Step.mk (oi := _) rfl [(28, 5)] (fun cs b h => by cases h) (by kernel_rfl) (fun vs W hI hA => ?_)
        simp only [List.map]
        obtain ⟨g, hg5, hgB, hh⟩ := hA 5 (by decide)
        rw [hg5]
        have hr := three_str at_ k hat hkb hh
        rw [← HEK.out.1] at hr
        simp only [putR, Act.put, List.setIfInBounds_toArray, List.set_cons_zero, List.set_cons_succ]
        refine SOp.val (v := strL' e.k) (w' := W) (by kernel_rfl) (by simp [execOp, Act.eval, hr, Result.andThen]) ⟨hI, upd_self _ _ _, fun _ _ _ _ _ h => h⟩
      · refine Step.mk (oi := _) rfl [] (fun cs b h => by cases h) (by kernel_rfl) (fun vs W hI hA => ?_)
        simp only [List.map]
        simp only [putR]
        refine SOp.val (v := strL' L) (w' := W) (by kernel_rfl) (by go_simp) ⟨hI, upd_self _ _ _, fun _ _ _ _ _ h => h⟩
      · refine Step.mk (oi := _) rfl [] (fun cs b h => by cases h) (by kernel_rfl) (fun vs W hI hA => ?_)
        simp only [List.map]
        simp only [putR]
        refine SOp.val (v := .int .i64 n) (w' := W) (by kernel_rfl) (by go_simp) ⟨hI, upd_self _ _ _, fun _ _ _ _ _ h => h⟩
      · refine Step.mk (oi := _) rfl [(30, 7), (31, 8)] (fun cs b h => by cases h) (by kernel_rfl) (fun vs W hI hA => ?_)
        simp only [List.map]
        have h7 : vs 7 = strL' L := hA 7 (by decide)
        have h8 : vs 8 = .int .i64 n := hA 8 (by decide)
        rw [h7, h8]
        simp only [putR, Act.put, List.setIfInBounds_toArray, List.set_cons_zero, List.set_cons_succ]
        refine SOp.val (v := strL' e.v) (w' := W) (by kernel_rfl) (by go_simp; rw [HEK.out.2]; exact ext_take _ _) ⟨hI, upd_self _ _ _, fun _ _ _ _ _ h => h⟩
      · refine Step.mk (oi := _) rfl [(29, 6), (32, 9)] (fun cs b h => by cases h) (by kernel_rfl) (fun vs W hI hA => ?_)
        simp only [List.map]
        have h6 : vs 6 = strL' e.k := hA 6 (by decide)
        have h9 : vs 9 = strL' e.v := hA 9 (by decide)
        rw [h6, h9]
        simp only [putR, Act.put, List.setIfInBounds_toArray, List.set_cons_zero, List.set_cons_succ]
        refine SOp.val (v := .agg #[strL' e.k, strL' e.v]) (w' := W) (by kernel_rfl) (by go_simp) ⟨hI, upd_self _ _ _, fun _ _ _ _ _ h => h⟩
      · refine Step.mk (oi := _) rfl [(33, 10)] (fun cs b h => by cases h) (by kernel_rfl) (fun vs W hI hA => ?_)
        simp only [List.map]
        have h10 : vs 10 = .agg #[strL' e.k, strL' e.v] := hA 10 (by decide)
        rw [h10]
        simp only [putR, Act.put, List.setIfInBounds_toArray, List.set_cons_zero, List.set_cons_succ]
        refine SOp.val (v := .slice (some ⟨W.heap.size, 0, none⟩) 1 1) (w' := W.alloc (.cells #[strL' e.k, strL' e.v] 42)) (by kernel_rfl) (by go_simp) ⟨hI.alloc hI.size _, ⟨W.heap.size, upd_self _ _ _, hI.size, heap_alloc_new _ _⟩, fun _ _ _ _ _ h => pieF_mono ((Below.refl _ _).alloc (Nat.le_refl _) _) h⟩
      · refine Step.mk (oi := _) rfl [(23, 0), (34, 11)] (fun cs b h => by cases h) (by kernel_rfl) (fun vs W hI hA => ?_)
        simp only [List.map]
        have h0 : vs 0 = u8 := hA 0 (by decide)
        rw [h0]
        obtain ⟨g, hg11, hgB, hh⟩ := hA 11 (by decide)
        have hrow : W.ownsRow w.heap.size 42 2 u8 k ((rowL (enPart at_ T) k).flatMap enC) := hA 14 (by decide)
        rw [hg11]
        obtain ⟨v', W', hr, ho, hgr⟩ := run_app_en W w.heap.size u8 k _ hrow (some ⟨g, 0, none⟩) [e] 1 1 30 rfl (one_ena hh) (by omega) hI.size
        simp only [putR, Act.put, List.setIfInBounds_toArray, List.set_cons_zero, List.set_cons_succ]
        refine SOp.val (v := v') (w' := W') (by kernel_rfl) (by simp [execOp, resolve, invoke, builtin, Act.eval, hr, Result.andThen]) ⟨hI.trans (grown_below hrow hI.size hgr), (show asrt (pieF w.heap.size k at_ n u8 (rowL (enPart at_ T) k) e L) pieDep 12 (upd vs 12 v') W' from by show World.ownsRow _ _ _ _ (upd vs 12 _ 12) _ _; rw [upd_self]; exact ho), ?_⟩
        intro j vs' a1 a2 a3 a4
        exact pieKeep [] (i := 12) (by decide) j vs' a1 a2 a3 (by rfl) a4
      · refine Step.mk (oi := _) rfl [(35, 12)] (fun cs b h => by cases h) (by kernel_rfl) (fun vs W hI hA => ?_)
        simp only [List.map]
        simp only [putR, Act.put, List.setIfInBounds_toArray, List.set_cons_zero, List.set_cons_succ]
        refine SOp.val (v := vs 12) (w' := W) (by kernel_rfl) (by go_simp) ⟨hI, ?_, fun _ _ _ _ _ h => h⟩
        show upd vs 13 (vs 12) 13 = upd vs 13 (vs 12) 12
        rw [upd_self]
        rfl
      · intro vs V hI hφ
        have q13 : vs 13 = vs 12 := hφ 13 (fun k _ => by simp [pieKill])
        have q12 : V.ownsRow w.heap.size 42 2 (vs 12) (k + 1) ((rowL (enPart at_ T) k ++ [e]).flatMap enC) := hφ 12 (fun k _ => by simp [pieKill])
        clear hφ
        simp only [putAll, Act.put, List.setIfInBounds_toArray, List.set_cons_zero, List.set_cons_succ]
        rw [q13]
        have HO3 : Hid (V.ownsRow w.heap.size 42 2 (vs 12) (k + 1) ((rowL (enPart at_ T) (k + 1)).flatMap enC)) := Lib.hid (by rw [row_snoc, HEE.out]; exact q12)
        have HB3 := Lib.hid hI
        clear hI q12 q13
        have hdr : T.drop (100 * (k + 1)) = L.drop n := by
          rw [show 100 * (k + 1) = 100 * k + 100 by omega, ← List.drop_drop, HL.out, ← HNN.out]
          by_cases h : L.length ≤ 100
          · rw [Nat.min_eq_left h, List.drop_of_length_le h, List.drop_of_length_le (Nat.le_refl _)]
          · rw [Nat.min_eq_right (by omega)]
        have HDR := Lib.hid hdr
        clear hdr
        go_wp2
        go_roundg (T.length - 100 * (k + 1))
        case measure => have := HLEN.out; omega
        case rel => exact ⟨k + 1, Nat.le_refl _, by have := HLEN.out; omega, by rw [HDR.out]; exact congrArg Value.string (ext_dropL L n), by go_num, HO3, HB3⟩
theorem pieces_any {A : Nat → Nat × Nat} (at_ : Nat) (x : Pr) (w : World) (hG : Gl A w) (h : x.at w) (hx : x.fit) (hat : at_ < 256) :
    Calls Tryz.prog 19 #[.int .i64 at_, .agg x.cs] w fun e w' => ((prOk x ∧ ∃ u, e = .returned (.tuple #[u, .bool true]) ∧ EnO w' w.heap.size u (piecesL at_ (prT x))) ∨ (¬ prOk x ∧ e = .returned (.tuple #[.slice none 0 0, .bool false]))) ∧ Below w.heap.size w w' := by
  by_cases he : x.e = 0
  · have ey := fun W (hb : Below w.heap.size w W) => enc_yes x W (hG.below hb) (h.below hb) hx he (pr_fitW he hx) (prB_le he hx).1
    by_cases ho : prW x = false ∧ (prB x).length + 4 ≤ 4000
    · have e1 : encR x = .tuple #[strL' (prT x), .int .i64 0] := by
        unfold encR
        rw [ho.1, decide_eq_false (by omega)]
        rfl
      rw [e1] at ey
      refine (pieces_yes at_ x (prT x) w (by rw [prT_len]; exact ho.2) hat ey).mono ?_
      rintro e w' ⟨h1, h2⟩
      exact ⟨.inl ⟨⟨he, ho⟩, h1⟩, h2⟩
    · have e1 : encR x = .tuple #[.string ⟨#[]⟩, .int .i64 (40 : Nat)] := by
        unfold encR
        rw [if_pos]
        · rfl
        · cases hq : prW x
          · rw [hq] at ho
            simp only [true_and] at ho
            simp only [Bool.false_or]
            exact decide_eq_true (by omega)
          · rfl
      rw [e1] at ey
      refine (pieces_no at_ x 40 w (by decide) ey).mono ?_
      rintro e w' ⟨h1, h2⟩
      exact ⟨.inr ⟨fun h => ho h.2, h1⟩, h2⟩
  · refine (pieces_no at_ x x.e w he (fun W hb => enc_no x W (hG.below hb) (h.below hb) hx he)).mono ?_
    rintro e w' ⟨h1, h2⟩
    exact ⟨.inr ⟨fun h => he h.1, h1⟩, h2⟩
end Go.Proofs.YtjakdbahopbggaaGreatDoor
