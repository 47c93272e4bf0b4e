/- What the codec's writer writes: texts, numbers, a truth. Conditions: the bytes are not too many. -/
import Derived.Test.YtblebjgjomamdaaDoorWr1
import Derived.Test.YtblebjgjomamdaaDoorMVars2
namespace Go.Proofs.YtblebjgjomamdaaDoor
open Go.RowKit Go.Ow Go.Wi

abbrev strL' (l : List UInt8) : Value := .string ⟨l.toArray⟩
/-- the writer at block W -/
def Wt (w : World) (W : Nat) (l : List UInt8) (wd : Bool) : Prop := Two w W 53 (strL' l) (.bool wd)
theorem Wt.al {w : World} {W : Nat} {l : List UInt8} {wd : Bool} (h : Wt w W l wd) (o : Obj) : Wt (w.alloc o) W l wd := Two.kept h (But.alloc (W + 1) w o) (by omega)
theorem cat_mk (l k : List UInt8) : cat ⟨l.toArray⟩ k = ⟨(l ++ k).toArray⟩ := by simp [cat]
theorem mk_size (l : List UInt8) : (⟨l.toArray⟩ : ByteArray).size = l.length := by show l.toArray.size = _; simp
/-- a text's bytes -/
def txt (t : ByteArray) : List UInt8 := enc t.size ++ t.data.toList
def txts (f : Nat → ByteArray) : Nat → Nat → List UInt8
  | _, 0 => []
  | k, n + 1 => txt (f k) ++ txts f (k + 1) n
theorem txts_at (f : Nat → ByteArray) (k n : Nat) (h : k < n) : txts f k (n - k) = txt (f k) ++ txts f (k + 1) (n - (k + 1)) := by
  have : n - k = n - (k + 1) + 1 := by omega
  rw [this, txts]
theorem txts_end (f : Nat → ByteArray) (n : Nat) : txts f n (n - n) = [] := by rw [Nat.sub_self, txts]
/-- a number's bytes, where it may be told -/
def numB (n : Int) : Bool := decide (0 ≤ n ∧ n ≤ 1099511627776)
def numL (n : Int) : List UInt8 := if numB n then enc n.toNat else []
def nums (f : Nat → Int) : Nat → Nat → List UInt8
  | _, 0 => []
  | k, n + 1 => numL (f k) ++ nums f (k + 1) n
def numsW (f : Nat → Int) : Nat → Nat → Bool
  | _, 0 => false
  | k, n + 1 => !numB (f k) || numsW f (k + 1) n
theorem nums_at (f : Nat → Int) (k n : Nat) (h : k < n) : nums f k (n - k) = numL (f k) ++ nums f (k + 1) (n - (k + 1)) := by
  have : n - k = n - (k + 1) + 1 := by omega
  rw [this, nums]
theorem nums_end (f : Nat → Int) (n : Nat) : nums f n (n - n) = [] := by rw [Nat.sub_self, nums]
theorem numsW_at (f : Nat → Int) (k n : Nat) (h : k < n) : numsW f k (n - k) = (!numB (f k) || numsW f (k + 1) (n - (k + 1))) := by
  have : n - k = n - (k + 1) + 1 := by omega
  rw [this, numsW]
theorem numsW_end (f : Nat → Int) (n : Nat) : numsW f n (n - n) = false := by rw [Nat.sub_self, numsW]
/-- the cells of a slice of numbers -/
def Is (w : World) (o : Option Addr) (n : Nat) (f : Nat → Int) : Prop := ∀ k, k < n → ∃ b off, o = some ⟨b, off, none⟩ ∧ b < w.heap.size ∧ w.cell? ⟨b, off + k, none⟩ = some (.int .i64 (f k))
/-- a slice does not lie in block W -/
def Off (o : Option Addr) (n W : Nat) : Prop := ∀ b off h, o = some ⟨b, off, h⟩ → 0 < n → b ≠ W
theorem Off.new {w : World} {n W : Nat} {t : TypeId} {x y : Value} (h : Two w W t x y) : Off (some ⟨w.heap.size, 0, none⟩) n W := by
  intro b off h' e _
  simp only [Option.some.injEq, Addr.mk.injEq] at e
  have := h.lt
  omega
theorem numS_mk (l : List UInt8) (n : Int) : Wr.numS ⟨l.toArray⟩ n = ⟨(l ++ numL n).toArray⟩ := by
  unfold Wr.numS Wr.numB numL numB
  split
  · exact cat_mk _ _
  · simp
theorem numE_ne (n : Int) : (Wr.numE n != 0) = !numB n := by
  unfold Wr.numE Wr.numB numB
  cases decide (0 ≤ n ∧ n ≤ 1099511627776) <;> rfl

set_option maxHeartbeats 1000000 in
theorem texts_any (W : Nat) (l : List UInt8) (wd : Bool) (o : Option Addr) (n c : Nat) (f : Nat → ByteArray) (w : World) (hT : Wt w W l wd) (hS : Ss w o n f) (hO : Off o n W) (hn : n ≤ 100000) (hf : ∀ k, k < n → (f k).size ≤ 90000)
    (hl : l.length + (txts f 0 n).length ≤ 900000) :
    Calls Tryd.prog 16 #[pt W, .slice o n c] w fun e w' => e = .returned (.tuple #[]) ∧ But W w w' ∧ Wt w' W (l ++ txts f 0 n) wd := by
  have HS := Lib.hid hS
  have HF := Lib.hid hf
  have HT := Lib.hid hT
  have HO := Lib.hid hO
  clear hS hf hT hO
  go_enter Tryd.func16, Tryd.ntmps16
  go_wp2
  go_loopw [8] (fun i wr => ∃ (k : Nat) (p : List UInt8), k ≤ n ∧ i = .int .i64 k ∧ Hid (p ++ txts f k (n - k) = txts f 0 n) ∧ Hid (But W w wr) ∧ Wt wr W (l ++ p) wd) (fun i _ => n - (intOf i).toNat)
  case atStart => exact ⟨0, [], Nat.zero_le _, rfl, Lib.hid rfl, Lib.hid (But.refl _ _), by rw [List.append_nil]; exact HT.out⟩
  case round =>
    obtain ⟨k, p, hk, rfl, HP, HB, hT⟩ := hrel
    have HT2 := Lib.hid hT
    by_cases hlt : k < n
    · obtain ⟨b, off, ho, hb, hc⟩ := HS.out k hlt
      have hne : b ≠ W := HO.out b off none ho (by omega)
      have c0 : wr.cell? ⟨b, off + k, none⟩ = some (.string (f k)) := by rw [HB.out.cell hb hne]; exact hc
      have hsz := HF.out k hlt
      have hlen : (p ++ txts f k (n - k)).length = (txts f 0 n).length := congrArg List.length HP.out
      rw [txts_at f k n hlt, List.length_append, List.length_append] at hlen
      have k0 := Two.c0 hT
      have f0 := Two.fz hT 0
      obtain ⟨t, ht⟩ : ∃ t, f k = t := ⟨_, rfl⟩
      have HE : Hid (txts f k (n - k) = txt t ++ txts f (k + 1) (n - (k + 1))) := Lib.hid (by rw [txts_at f k n hlt, ht])
      rw [ht] at c0 hsz hlen
      subst ho
      clear hT hb hc hne ht
      have TA := fun (w1 : World) => Wr.text_any ⟨(l ++ p).toArray⟩ t w1 (by rw [mk_size, List.length_append]; omega) hsz
      rw [cat_mk] at TA
      have TA := Lib.hid TA
      clear hlen
      go_wp2_with (go_at_call 36; refine (TA.out wr).mono ?_; rintro e w1 ⟨rfl, hb1⟩; have hT1 := HT2.out.keptB hb1 (HT2.out.lt); have k1 := Two.c0 hT1; have f1 := Two.fz hT1 0)
      go_roundw
      case rel => exact ⟨k + 1, p ++ txt t, by omega, by go_num, Lib.hid (by rw [List.append_assoc, ← HE.out]; exact HP.out), Lib.hid ((HB.out.trans (But.of_below hb1)).trans (But.setCell W w1 0 _)), hT1.set0 (strL' (l ++ (p ++ txt t)))⟩
      case measure => simp [intOf]; omega
    · obtain rfl : k = n := by omega
      have HE : Hid (p = txts f 0 k) := Lib.hid (by have := HP.out; rw [txts_end, List.append_nil] at this; exact this)
      clear hT
      go_wp2
      refine bodyPost_end (v := .tuple #[]) (by simp [results, Tryd.results16, go_sem]) rfl ⟨rfl, HB.out, ?_⟩
      rw [← HE.out]
      exact HT2.out

set_option maxHeartbeats 1000000 in
theorem nums_any (W : Nat) (l : List UInt8) (wd : Bool) (o : Option Addr) (n c : Nat) (f : Nat → Int) (w : World) (hT : Wt w W l wd) (hS : Is w o n f) (hO : Off o n W) (hn : n ≤ 100000)
    (hl : l.length + (nums f 0 n).length ≤ 900000) :
    Calls Tryd.prog 18 #[pt W, .slice o n c] w fun e w' => e = .returned (.tuple #[]) ∧ But W w w' ∧ Wt w' W (l ++ nums f 0 n) (wd || numsW f 0 n) := by
  have HS := Lib.hid hS
  have HT := Lib.hid hT
  have HO := Lib.hid hO
  clear hS hT hO
  go_enter Tryd.func18, Tryd.ntmps18
  go_wp2
  go_loopw [10] (fun i wr => ∃ (k : Nat) (p : List UInt8) (q : Bool), k ≤ n ∧ i = .int .i64 k ∧ Hid (p ++ nums f k (n - k) = nums f 0 n) ∧ Hid ((q || numsW f k (n - k)) = (wd || numsW f 0 n)) ∧ Hid (But W w wr) ∧ Wt wr W (l ++ p) q) (fun i _ => n - (intOf i).toNat)
  case atStart => exact ⟨0, [], wd, Nat.zero_le _, rfl, Lib.hid rfl, Lib.hid rfl, Lib.hid (But.refl _ _), by rw [List.append_nil]; exact HT.out⟩
  case round =>
    obtain ⟨k, p, q, hk, rfl, HP, HQ, HB, hT⟩ := hrel
    have HT2 := Lib.hid hT
    by_cases hlt : k < n
    · obtain ⟨b, off, ho, hb, hc⟩ := HS.out k hlt
      have hne : b ≠ W := HO.out b off none ho (by omega)
      have c0 : wr.cell? ⟨b, off + k, none⟩ = some (.int .i64 (f k)) := by rw [HB.out.cell hb hne]; exact hc
      have hlen : (p ++ nums f k (n - k)).length = (nums f 0 n).length := congrArg List.length HP.out
      rw [nums_at f k n hlt, List.length_append, List.length_append] at hlen
      have k0 := Two.c0 hT
      have k1 := Two.c1 hT
      have f0 := Two.fz hT 0
      have f1 := Two.fz hT 1
      obtain ⟨t, ht⟩ : ∃ t, f k = t := ⟨_, rfl⟩
      have HE : Hid (nums f k (n - k) = numL t ++ nums f (k + 1) (n - (k + 1))) := Lib.hid (by rw [nums_at f k n hlt, ht])
      have HEW : Hid (numsW f k (n - k) = (!numB t || numsW f (k + 1) (n - (k + 1)))) := Lib.hid (by rw [numsW_at f k n hlt, ht])
      rw [ht] at c0 hlen
      subst ho
      clear hT hb hc hne ht
      have TA := fun (w1 : World) => Wr.num_all ⟨(l ++ p).toArray⟩ t w1 (by rw [mk_size, List.length_append]; omega)
      rw [numS_mk] at TA
      clear hlen
      cases hq : numB t
      · have e1 : Wr.numE t = 1 := by have := numE_ne t; rw [hq] at this; unfold Wr.numE at this ⊢; cases h : Wr.numB t; rfl; rw [h] at this; exact absurd this (by decide)
        rw [e1] at TA
        have TA := Lib.hid TA
        have HQ2 := HQ.out
        rw [HEW.out, hq] at HQ2
        have HQ2 := Lib.hid HQ2
        clear e1 hq
        cases q <;>
        · go_wp2_with (go_at_call 38; refine (TA.out wr).mono ?_; rintro e w1 ⟨rfl, hb1⟩; have hT1 := HT2.out.keptB hb1 (HT2.out.lt); have k1 := Two.c0 hT1; have k2 := Two.c1 hT1; have f1 := Two.fz hT1 0; have f2 := Two.fz hT1 1)
          go_roundw
          case rel => exact ⟨k + 1, p ++ numL t, true, by omega, by go_num, Lib.hid (by rw [List.append_assoc, ← HE.out]; exact HP.out), Lib.hid (by have := HQ2.out; simpa using this), Lib.hid (((HB.out.trans (But.of_below hb1)).trans (But.setCell W w1 0 _)).trans (But.setCell W _ 1 _)), (hT1.set0 (strL' (l ++ (p ++ numL t)))).set1 _⟩
          case measure => simp [intOf]; omega
      · have e1 : Wr.numE t = 0 := by have := numE_ne t; rw [hq] at this; unfold Wr.numE at this ⊢; cases h : Wr.numB t; rw [h] at this; exact absurd this (by decide); rfl
        rw [e1] at TA
        have TA := Lib.hid TA
        have HQ2 := HQ.out
        rw [HEW.out, hq] at HQ2
        have HQ2 := Lib.hid HQ2
        clear e1 hq
        cases q <;>
        · go_wp2_with (go_at_call 38; refine (TA.out wr).mono ?_; rintro e w1 ⟨rfl, hb1⟩; have hT1 := HT2.out.keptB hb1 (HT2.out.lt); have k1 := Two.c0 hT1; have k2 := Two.c1 hT1; have f1 := Two.fz hT1 0; have f2 := Two.fz hT1 1)
          go_roundw
          case rel => exact ⟨k + 1, p ++ numL t, _, by omega, by go_num, Lib.hid (by rw [List.append_assoc, ← HE.out]; exact HP.out), Lib.hid (by have := HQ2.out; simpa using this), Lib.hid (((HB.out.trans (But.of_below hb1)).trans (But.setCell W w1 0 _)).trans (But.setCell W _ 1 _)), (hT1.set0 (strL' (l ++ (p ++ numL t)))).set1 _⟩
          case measure => simp [intOf]; omega
    · obtain rfl : k = n := by omega
      have HE : Hid (p = nums f 0 k) := Lib.hid (by have := HP.out; rw [nums_end, List.append_nil] at this; exact this)
      have HE2 : Hid (q = (wd || numsW f 0 k)) := Lib.hid (by have := HQ.out; rw [numsW_end, Bool.or_false] at this; exact this)
      clear hT
      go_wp2
      refine bodyPost_end (v := .tuple #[]) (by simp [results, Tryd.results18, go_sem]) rfl ⟨rfl, HB.out, ?_⟩
      rw [← HE.out, ← HE2.out]
      exact HT2.out
/-- texts given one by one -/
def tAt (ts : List ByteArray) (k : Nat) : ByteArray := ts.getD k ⟨#[]⟩
def nAt (ns : List Int) (k : Nat) : Int := ns.getD k 0
theorem ss_new (w : World) (ts : List ByteArray) (cs : Array Value) (t : TypeId) (h : cs.toList = ts.map Value.string) : Ss (w.alloc (.cells cs t)) (some ⟨w.heap.size, 0, none⟩) ts.length (tAt ts) := fun k hk => by
  refine ⟨_, 0, rfl, by simp, ?_⟩
  rw [cell_of_row _ _ _ cs t (0, 0) (heap_alloc_new w _), Nat.zero_add, ← Array.getElem?_toList, h, List.getElem?_map, List.getElem?_eq_getElem hk]
  simp [tAt, List.getD_eq_getElem?_getD, List.getElem?_eq_getElem hk]
theorem is_new (w : World) (ts : List Int) (cs : Array Value) (t : TypeId) (h : cs.toList = ts.map (Value.int .i64)) : Is (w.alloc (.cells cs t)) (some ⟨w.heap.size, 0, none⟩) ts.length (nAt ts) := fun k hk => by
  refine ⟨_, 0, rfl, by simp, ?_⟩
  rw [cell_of_row _ _ _ cs t (0, 0) (heap_alloc_new w _), Nat.zero_add, ← Array.getElem?_toList, h, List.getElem?_map, List.getElem?_eq_getElem hk]
  simp [nAt, List.getD_eq_getElem?_getD, List.getElem?_eq_getElem hk]

/-- a text or more, just told -/
theorem texts_new (W : Nat) (l : List UInt8) (wd : Bool) (ts : List ByteArray) (n c : Nat) (cs : Array Value) (t : TypeId) (w : World) (hT : Wt w W l wd) (h : cs.toList = ts.map Value.string) (hn : ts.length = n) (hn2 : n ≤ 100000) (hf : ∀ x ∈ ts, x.size ≤ 90000)
    (hl : l.length + (txts (tAt ts) 0 n).length ≤ 900000) :
    Calls Tryd.prog 16 #[pt W, .slice (some ⟨w.heap.size, 0, none⟩) n c] (w.alloc (.cells cs t)) fun e w' => e = .returned (.tuple #[]) ∧ But W w w' ∧ Wt w' W (l ++ txts (tAt ts) 0 n) wd := by
  subst hn
  refine (texts_any W l wd _ _ c (tAt ts) _ (hT.al _) (ss_new w ts cs t h) (Off.new hT) hn2 (fun k hk => ?_) hl).mono ?_
  · have : tAt ts k = ts[k] := by simp [tAt, List.getD_eq_getElem?_getD, List.getElem?_eq_getElem hk]
    rw [this]
    exact hf _ (List.getElem_mem hk)
  · rintro e w' ⟨h1, h2, h3⟩
    exact ⟨h1, (But.alloc W w _).trans h2, h3⟩
theorem nums_new (W : Nat) (l : List UInt8) (wd : Bool) (ts : List Int) (n c : Nat) (cs : Array Value) (t : TypeId) (w : World) (hT : Wt w W l wd) (h : cs.toList = ts.map (Value.int .i64)) (hn : ts.length = n) (hn2 : n ≤ 100000)
    (hl : l.length + (nums (nAt ts) 0 n).length ≤ 900000) :
    Calls Tryd.prog 18 #[pt W, .slice (some ⟨w.heap.size, 0, none⟩) n c] (w.alloc (.cells cs t)) fun e w' => e = .returned (.tuple #[]) ∧ But W w w' ∧ Wt w' W (l ++ nums (nAt ts) 0 n) (wd || numsW (nAt ts) 0 n) := by
  subst hn
  refine (nums_any W l wd _ _ c (nAt ts) _ (hT.al _) (is_new w ts cs t h) (Off.new hT) hn2 hl).mono ?_
  rintro e w' ⟨h1, h2, h3⟩
  exact ⟨h1, (But.alloc W w _).trans h2, h3⟩
theorem numL_len (n : Int) : (numL n).length ≤ 10 := by
  unfold numL numB
  split
  · rename_i h
    have := of_decide_eq_true h
    exact enc_len64 _ (by omega)
  · simp
def b2n (b : Bool) : Int := if b then 1 else 0

set_option maxHeartbeats 1000000 in
theorem truth_wr (W : Nat) (l : List UInt8) (wd : Bool) (b : Bool) (w : World) (hT : Wt w W l wd) (hl : l.length ≤ 800000) :
    Calls Tryd.prog 19 #[pt W, .bool b] w fun e w' => e = .returned (.tuple #[]) ∧ But W w w' ∧ Wt w' W (l ++ numL (b2n b)) wd := by
  have hw : numsW (nAt [b2n b]) 0 1 = false := by cases b <;> decide
  have hn : nums (nAt [b2n b]) 0 1 = numL (b2n b) := by simp [nums, nAt]
  have H := nums_new W l wd [b2n b] 1 1 #[.int .i64 (b2n b)] 3 w hT rfl rfl (by omega) (by rw [hn]; have := numL_len (b2n b); omega)
  rw [hn, hw, Bool.or_false] at H
  have H := Lib.hid H
  clear hT hw hn
  cases b
  · go_enter Tryd.func19, Tryd.ntmps19
    go_wp2_with (go_at_call 18; refine H.out.mono ?_; rintro e w1 ⟨rfl, hb, h2⟩)
    exact bodyPost_end (v := .tuple #[]) (by simp [results, Tryd.results19, go_sem]) rfl ⟨rfl, hb, h2⟩
  · go_enter Tryd.func19, Tryd.ntmps19
    go_wp2_with (go_at_call 18; refine H.out.mono ?_; rintro e w1 ⟨rfl, hb, h2⟩)
    exact bodyPost_end (v := .tuple #[]) (by simp [results, Tryd.results19, go_sem]) rfl ⟨rfl, hb, h2⟩
end Go.Proofs.YtblebjgjomamdaaDoor
