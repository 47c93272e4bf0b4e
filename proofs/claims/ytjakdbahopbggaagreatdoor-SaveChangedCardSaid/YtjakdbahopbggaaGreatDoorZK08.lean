/- What the codec's writer writes: texts, numbers, a truth. Conditions: the bytes are not too many. -/
import Derived.Test.YtjakdbahopbggaaGreatDoorZWr1
import Derived.Test.YtjakdbahopbggaaGreatDoorZMVars2
import Derived.Deep.RegionWith
section
namespace Go.Proofs.YtjakdbahopbggaaGreatDoor
open Go.RowKit Go.Ow Go.Wi

abbrev strL' (l : List UInt8) : Value := .string ⟨l.toArray⟩
/-- the writer at block W -/
def Wt (w : World) (W : Nat) (l : List UInt8) (wd : Bool) : Prop := Two w W 139 (strL' l) (.bool wd)
theorem Wt.al {w : World} {W : Nat} {l : List UInt8} {wd : Bool} (h : Wt w W l wd) (o : Obj) : Wt (w.alloc o) W l wd := Two.kept h (But.alloc (W + 1) w o) (by omega)
theorem cat_mk (l k : List UInt8) : cat ⟨l.toArray⟩ k = ⟨(l ++ k).toArray⟩ := by simp [cat]
theorem mk_size (l : List UInt8) : (⟨l.toArray⟩ : ByteArray).size = l.length := by show l.toArray.size = _; simp
/-- a text's bytes -/
def txt (t : ByteArray) : List UInt8 := enc t.size ++ t.data.toList
def txts (f : Nat → ByteArray) : Nat → Nat → List UInt8
  | _, 0 => []
  | k, n + 1 => txt (f k) ++ txts f (k + 1) n
theorem txts_at (f : Nat → ByteArray) (k n : Nat) (h : k < n) : txts f k (n - k) = txt (f k) ++ txts f (k + 1) (n - (k + 1)) := by
  have : n - k = n - (k + 1) + 1 := by omega
  rw [this, txts]
theorem txts_end (f : Nat → ByteArray) (n : Nat) : txts f n (n - n) = [] := by rw [Nat.sub_self, txts]
/-- a number's bytes, where it may be told -/
def numB (n : Int) : Bool := decide (0 ≤ n ∧ n ≤ 1099511627776)
def numL (n : Int) : List UInt8 := if numB n then enc n.toNat else []
def nums (f : Nat → Int) : Nat → Nat → List UInt8
  | _, 0 => []
  | k, n + 1 => numL (f k) ++ nums f (k + 1) n
def numsW (f : Nat → Int) : Nat → Nat → Bool
  | _, 0 => false
  | k, n + 1 => !numB (f k) || numsW f (k + 1) n
theorem nums_at (f : Nat → Int) (k n : Nat) (h : k < n) : nums f k (n - k) = numL (f k) ++ nums f (k + 1) (n - (k + 1)) := by
  have : n - k = n - (k + 1) + 1 := by omega
  rw [this, nums]
theorem nums_end (f : Nat → Int) (n : Nat) : nums f n (n - n) = [] := by rw [Nat.sub_self, nums]
theorem numsW_at (f : Nat → Int) (k n : Nat) (h : k < n) : numsW f k (n - k) = (!numB (f k) || numsW f (k + 1) (n - (k + 1))) := by
  have : n - k = n - (k + 1) + 1 := by omega
  rw [this, numsW]
theorem numsW_end (f : Nat → Int) (n : Nat) : numsW f n (n - n) = false := by rw [Nat.sub_self, numsW]
/-- the cells of a slice of numbers -/
def Is (w : World) (o : Option Addr) (n : Nat) (f : Nat → Int) : Prop := ∀ k, k < n → ∃ b off, o = some ⟨b, off, none⟩ ∧ b < w.heap.size ∧ w.cell? ⟨b, off + k, none⟩ = some (.int .i64 (f k))
/-- a slice does not lie in block W -/
def Off (o : Option Addr) (n W : Nat) : Prop := ∀ b off h, o = some ⟨b, off, h⟩ → 0 < n → b ≠ W
theorem Off.new {w : World} {n W : Nat} {t : TypeId} {x y : Value} (h : Two w W t x y) : Off (some ⟨w.heap.size, 0, none⟩) n W := by
  intro b off h' e _
  simp only [Option.some.injEq, Addr.mk.injEq] at e
  have := h.lt
  omega
theorem numS_mk (l : List UInt8) (n : Int) : Wr.numS ⟨l.toArray⟩ n = ⟨(l ++ numL n).toArray⟩ := by
  unfold Wr.numS Wr.numB numL numB
  split
  · exact cat_mk _ _
  · simp
theorem numE_ne (n : Int) : (Wr.numE n != 0) = !numB n := by
  unfold Wr.numE Wr.numB numB
  cases decide (0 ≤ n ∧ n ≤ 1099511627776) <;> rfl

set_option maxHeartbeats 1000000 in
theorem texts_any (W : Nat) (l : List UInt8) (wd : Bool) (o : Option Addr) (n c : Nat) (f : Nat → ByteArray) (w : World) (hT : Wt w W l wd) (hS : Ss w o n f) (hO : Off o n W) (hn : n ≤ 100000) (hf : ∀ k, k < n → (f k).size ≤ 90000)
    (hl : l.length + (txts f 0 n).length ≤ 900000) :
    Calls Tryz.prog 68 #[pt W, .slice o n c] w fun e w' => e = .returned (.tuple #[]) ∧ But W w w' ∧ Wt w' W (l ++ txts f 0 n) wd := by
  have HS := Lib.hid hS
  have HF := Lib.hid hf
  have HT := Lib.hid hT
  have HO := Lib.hid hO
  clear hS hf hT hO
  go_enter Tryz.func68, Tryz.ntmps68
  go_wp2
  go_loopw [8] (fun i wr => ∃ (k : Nat) (p : List UInt8), k ≤ n ∧ i = .int .i64 k ∧ Hid (p ++ txts f k (n - k) = txts f 0 n) ∧ Hid (But W w wr) ∧ Wt wr W (l ++ p) wd) (fun i _ => n - (intOf i).toNat)
  case atStart => exact ⟨0, [], Nat.zero_le _, rfl, Lib.hid rfl, Lib.hid (But.refl _ _), by rw [List.append_nil]; exact HT.out⟩
  case round =>
    obtain ⟨k, p, hk, rfl, HP, HB, hT⟩ := hrel
    have HT2 := Lib.hid hT
    by_cases hlt : k < n
    · obtain ⟨b, off, ho, hb, hc⟩ := HS.out k hlt
      have hne : b ≠ W := HO.out b off none ho (by omega)
      have c0 : wr.cell? ⟨b, off + k, none⟩ = some (.string (f k)) := by rw [HB.out.cell hb hne]; exact hc
      have hsz := HF.out k hlt
      have hlen : (p ++ txts f k (n - k)).length = (txts f 0 n).length := congrArg List.length HP.out
      rw [txts_at f k n hlt, List.length_append, List.length_append] at hlen
      have k0 := Two.c0 hT
      have f0 := Two.fz hT 0
      obtain ⟨t, ht⟩ : ∃ t, f k = t := ⟨_, rfl⟩
      have HE : Hid (txts f k (n - k) = txt t ++ txts f (k + 1) (n - (k + 1))) := Lib.hid (by rw [txts_at f k n hlt, ht])
      rw [ht] at c0 hsz hlen
      subst ho
      clear hT hb hc hne ht
      have TA := fun (w1 : World) => Wr.text_any ⟨(l ++ p).toArray⟩ t w1 (by rw [mk_size, List.length_append]; omega) hsz
      rw [cat_mk] at TA
      have TA := Lib.hid TA
      clear hlen
      go_wp2_with (go_at_call 72; refine (TA.out wr).mono ?_; rintro e w1 ⟨rfl, hb1⟩; have hT1 := HT2.out.keptB hb1 (HT2.out.lt); have k1 := Two.c0 hT1; have f1 := Two.fz hT1 0)
      go_roundw
      case rel => exact ⟨k + 1, p ++ txt t, by omega, by go_num, Lib.hid (by rw [List.append_assoc, ← HE.out]; exact HP.out), Lib.hid ((HB.out.trans (But.of_below hb1)).trans (But.setCell W w1 0 _)), hT1.set0 (strL' (l ++ (p ++ txt t)))⟩
      case measure => simp [intOf]; omega
    · obtain rfl : k = n := by omega
      have HE : Hid (p = txts f 0 k) := Lib.hid (by have := HP.out; rw [txts_end, List.append_nil] at this; exact this)
      clear hT
      go_wp2
      refine bodyPost_end (v := .tuple #[]) (by simp [results, Tryz.results68, go_sem]) rfl ⟨rfl, HB.out, ?_⟩
      rw [← HE.out]
      exact HT2.out

set_option maxHeartbeats 1000000 in
theorem nums_any (W : Nat) (l : List UInt8) (wd : Bool) (o : Option Addr) (n c : Nat) (f : Nat → Int) (w : World) (hT : Wt w W l wd) (hS : Is w o n f) (hO : Off o n W) (hn : n ≤ 100000)
    (hl : l.length + (nums f 0 n).length ≤ 900000) :
    Calls Tryz.prog 70 #[pt W, .slice o n c] w fun e w' => e = .returned (.tuple #[]) ∧ But W w w' ∧ Wt w' W (l ++ nums f 0 n) (wd || numsW f 0 n) := by
  have HS := Lib.hid hS
  have HT := Lib.hid hT
  have HO := Lib.hid hO
  clear hS hT hO
  go_enter Tryz.func70, Tryz.ntmps70
  go_wp2
  go_loopw [10] (fun i wr => ∃ (k : Nat) (p : List UInt8) (q : Bool), k ≤ n ∧ i = .int .i64 k ∧ Hid (p ++ nums f k (n - k) = nums f 0 n) ∧ Hid ((q || numsW f k (n - k)) = (wd || numsW f 0 n)) ∧ Hid (But W w wr) ∧ Wt wr W (l ++ p) q) (fun i _ => n - (intOf i).toNat)
  case atStart => exact ⟨0, [], wd, Nat.zero_le _, rfl, Lib.hid rfl, Lib.hid rfl, Lib.hid (But.refl _ _), by rw [List.append_nil]; exact HT.out⟩
  case round =>
    obtain ⟨k, p, q, hk, rfl, HP, HQ, HB, hT⟩ := hrel
    have HT2 := Lib.hid hT
    by_cases hlt : k < n
    · obtain ⟨b, off, ho, hb, hc⟩ := HS.out k hlt
      have hne : b ≠ W := HO.out b off none ho (by omega)
      have c0 : wr.cell? ⟨b, off + k, none⟩ = some (.int .i64 (f k)) := by rw [HB.out.cell hb hne]; exact hc
      have hlen : (p ++ nums f k (n - k)).length = (nums f 0 n).length := congrArg List.length HP.out
      rw [nums_at f k n hlt, List.length_append, List.length_append] at hlen
      have k0 := Two.c0 hT
      have k1 := Two.c1 hT
      have f0 := Two.fz hT 0
      have f1 := Two.fz hT 1
      obtain ⟨t, ht⟩ : ∃ t, f k = t := ⟨_, rfl⟩
      have HE : Hid (nums f k (n - k) = numL t ++ nums f (k + 1) (n - (k + 1))) := Lib.hid (by rw [nums_at f k n hlt, ht])
      have HEW : Hid (numsW f k (n - k) = (!numB t || numsW f (k + 1) (n - (k + 1)))) := Lib.hid (by rw [numsW_at f k n hlt, ht])
      rw [ht] at c0 hlen
      subst ho
      clear hT hb hc hne ht
      have TA := fun (w1 : World) => Wr.num_all ⟨(l ++ p).toArray⟩ t w1 (by rw [mk_size, List.length_append]; omega)
      rw [numS_mk] at TA
      clear hlen
      cases hq : numB t
      · have e1 : Wr.numE t = 1 := by have := numE_ne t; rw [hq] at this; unfold Wr.numE at this ⊢; cases h : Wr.numB t; rfl; rw [h] at this; exact absurd this (by decide)
        rw [e1] at TA
        have TA := Lib.hid TA
        have HQ2 := HQ.out
        rw [HEW.out, hq] at HQ2
        have HQ2 := Lib.hid HQ2
        clear e1 hq
        cases q <;>
        · go_wp2_with (go_at_call 38; refine (TA.out wr).mono ?_; rintro e w1 ⟨rfl, hb1⟩; have hT1 := HT2.out.keptB hb1 (HT2.out.lt); have k1 := Two.c0 hT1; have k2 := Two.c1 hT1; have f1 := Two.fz hT1 0; have f2 := Two.fz hT1 1)
          go_roundw
          case rel => exact ⟨k + 1, p ++ numL t, true, by omega, by go_num, Lib.hid (by rw [List.append_assoc, ← HE.out]; exact HP.out), Lib.hid (by have := HQ2.out; simpa using this), Lib.hid (((HB.out.trans (But.of_below hb1)).trans (But.setCell W w1 0 _)).trans (But.setCell W _ 1 _)), (hT1.set0 (strL' (l ++ (p ++ numL t)))).set1 _⟩
          case measure => simp [intOf]; omega
      · have e1 : Wr.numE t = 0 := by have := numE_ne t; rw [hq] at this; unfold Wr.numE at this ⊢; cases h : Wr.numB t; rw [h] at this; exact absurd this (by decide); rfl
        rw [e1] at TA
        have TA := Lib.hid TA
        have HQ2 := HQ.out
        rw [HEW.out, hq] at HQ2
        have HQ2 := Lib.hid HQ2
        clear e1 hq
        cases q <;>
        · go_wp2_with (go_at_call 38; refine (TA.out wr).mono ?_; rintro e w1 ⟨rfl, hb1⟩; have hT1 := HT2.out.keptB hb1 (HT2.out.lt); have k1 := Two.c0 hT1; have k2 := Two.c1 hT1; have f1 := Two.fz hT1 0; have f2 := Two.fz hT1 1)
          go_roundw
          case rel => exact ⟨k + 1, p ++ numL t, _, by omega, by go_num, Lib.hid (by rw [List.append_assoc, ← HE.out]; exact HP.out), Lib.hid (by have := HQ2.out; simpa using this), Lib.hid (((HB.out.trans (But.of_below hb1)).trans (But.setCell W w1 0 _)).trans (But.setCell W _ 1 _)), (hT1.set0 (strL' (l ++ (p ++ numL t)))).set1 _⟩
          case measure => simp [intOf]; omega
    · obtain rfl : k = n := by omega
      have HE : Hid (p = nums f 0 k) := Lib.hid (by have := HP.out; rw [nums_end, List.append_nil] at this; exact this)
      have HE2 : Hid (q = (wd || numsW f 0 k)) := Lib.hid (by have := HQ.out; rw [numsW_end, Bool.or_false] at this; exact this)
      clear hT
      go_wp2
      refine bodyPost_end (v := .tuple #[]) (by simp [results, Tryz.results70, go_sem]) rfl ⟨rfl, HB.out, ?_⟩
      rw [← HE.out, ← HE2.out]
      exact HT2.out
/-- texts given one by one -/
def tAt (ts : List ByteArray) (k : Nat) : ByteArray := ts.getD k ⟨#[]⟩
def nAt (ns : List Int) (k : Nat) : Int := ns.getD k 0
theorem ss_new (w : World) (ts : List ByteArray) (cs : Array Value) (t : TypeId) (h : cs.toList = ts.map Value.string) : Ss (w.alloc (.cells cs t)) (some ⟨w.heap.size, 0, none⟩) ts.length (tAt ts) := fun k hk => by
  refine ⟨_, 0, rfl, by simp, ?_⟩
  rw [cell_of_row _ _ _ cs t (0, 0) (heap_alloc_new w _), Nat.zero_add, ← Array.getElem?_toList, h, List.getElem?_map, List.getElem?_eq_getElem hk]
  simp [tAt, List.getD_eq_getElem?_getD, List.getElem?_eq_getElem hk]
theorem is_new (w : World) (ts : List Int) (cs : Array Value) (t : TypeId) (h : cs.toList = ts.map (Value.int .i64)) : Is (w.alloc (.cells cs t)) (some ⟨w.heap.size, 0, none⟩) ts.length (nAt ts) := fun k hk => by
  refine ⟨_, 0, rfl, by simp, ?_⟩
  rw [cell_of_row _ _ _ cs t (0, 0) (heap_alloc_new w _), Nat.zero_add, ← Array.getElem?_toList, h, List.getElem?_map, List.getElem?_eq_getElem hk]
  simp [nAt, List.getD_eq_getElem?_getD, List.getElem?_eq_getElem hk]

/-- a text or more, just told -/
theorem texts_new (W : Nat) (l : List UInt8) (wd : Bool) (ts : List ByteArray) (n c : Nat) (cs : Array Value) (t : TypeId) (w : World) (hT : Wt w W l wd) (h : cs.toList = ts.map Value.string) (hn : ts.length = n) (hn2 : n ≤ 100000) (hf : ∀ x ∈ ts, x.size ≤ 90000)
    (hl : l.length + (txts (tAt ts) 0 n).length ≤ 900000) :
    Calls Tryz.prog 68 #[pt W, .slice (some ⟨w.heap.size, 0, none⟩) n c] (w.alloc (.cells cs t)) fun e w' => e = .returned (.tuple #[]) ∧ But W w w' ∧ Wt w' W (l ++ txts (tAt ts) 0 n) wd := by
  subst hn
  refine (texts_any W l wd _ _ c (tAt ts) _ (hT.al _) (ss_new w ts cs t h) (Off.new hT) hn2 (fun k hk => ?_) hl).mono ?_
  · have : tAt ts k = ts[k] := by simp [tAt, List.getD_eq_getElem?_getD, List.getElem?_eq_getElem hk]
    rw [this]
    exact hf _ (List.getElem_mem hk)
  · rintro e w' ⟨h1, h2, h3⟩
    exact ⟨h1, (But.alloc W w _).trans h2, h3⟩
theorem nums_new (W : Nat) (l : List UInt8) (wd : Bool) (ts : List Int) (n c : Nat) (cs : Array Value) (t : TypeId) (w : World) (hT : Wt w W l wd) (h : cs.toList = ts.map (Value.int .i64)) (hn : ts.length = n) (hn2 : n ≤ 100000)
    (hl : l.length + (nums (nAt ts) 0 n).length ≤ 900000) :
    Calls Tryz.prog 70 #[pt W, .slice (some ⟨w.heap.size, 0, none⟩) n c] (w.alloc (.cells cs t)) fun e w' => e = .returned (.tuple #[]) ∧ But W w w' ∧ Wt w' W (l ++ nums (nAt ts) 0 n) (wd || numsW (nAt ts) 0 n) := by
  subst hn
  refine (nums_any W l wd _ _ c (nAt ts) _ (hT.al _) (is_new w ts cs t h) (Off.new hT) hn2 hl).mono ?_
  rintro e w' ⟨h1, h2, h3⟩
  exact ⟨h1, (But.alloc W w _).trans h2, h3⟩
theorem numL_len (n : Int) : (numL n).length ≤ 10 := by
  unfold numL numB
  split
  · rename_i h
    have := of_decide_eq_true h
    exact enc_len64 _ (by omega)
  · simp
def b2n (b : Bool) : Int := if b then 1 else 0

set_option maxHeartbeats 1000000 in
theorem truth_wr (W : Nat) (l : List UInt8) (wd : Bool) (b : Bool) (w : World) (hT : Wt w W l wd) (hl : l.length ≤ 800000) :
    Calls Tryz.prog 71 #[pt W, .bool b] w fun e w' => e = .returned (.tuple #[]) ∧ But W w w' ∧ Wt w' W (l ++ numL (b2n b)) wd := by
  have hw : numsW (nAt [b2n b]) 0 1 = false := by cases b <;> decide
  have hn : nums (nAt [b2n b]) 0 1 = numL (b2n b) := by simp [nums, nAt]
  have H := nums_new W l wd [b2n b] 1 1 #[.int .i64 (b2n b)] 3 w hT rfl rfl (by omega) (by rw [hn]; have := numL_len (b2n b); omega)
  rw [hn, hw, Bool.or_false] at H
  have H := Lib.hid H
  clear hT hw hn
  cases b
  · go_enter Tryz.func71, Tryz.ntmps71
    go_wp2_with (go_at_call 70; refine H.out.mono ?_; rintro e w1 ⟨rfl, hb, h2⟩)
    exact bodyPost_end (v := .tuple #[]) (by simp [results, Tryz.results71, go_sem]) rfl ⟨rfl, hb, h2⟩
  · go_enter Tryz.func71, Tryz.ntmps71
    go_wp2_with (go_at_call 70; refine H.out.mono ?_; rintro e w1 ⟨rfl, hb, h2⟩)
    exact bodyPost_end (v := .tuple #[]) (by simp [results, Tryz.results71, go_sem]) rfl ⟨rfl, hb, h2⟩
end Go.Proofs.YtjakdbahopbggaaGreatDoor
end
/- What the codec's writer writes for variables. Conditions: the bytes are not too many. -/
section
namespace Go.Proofs.YtjakdbahopbggaaGreatDoor
open Go.RowKit Go.Ow Go.Wi

/-- a value's bytes, where it may be told -/
def valL (k : Nat) (n : Int) (t : ByteArray) : List UInt8 := if may k n t then encV k n t else []
def varB (v : Va) : List UInt8 := txt v.nm ++ valL v.k v.n v.t
def vsB (f : Nat → Va) : Nat → Nat → List UInt8
  | _, 0 => []
  | k, n + 1 => varB (f k) ++ vsB f (k + 1) n
theorem vsB_at (f : Nat → Va) (k n : Nat) (h : k < n) : vsB f k (n - k) = varB (f k) ++ vsB f (k + 1) (n - (k + 1)) := by
  have : n - k = n - (k + 1) + 1 := by omega
  rw [this, vsB]
theorem vsB_end (f : Nat → Va) (n : Nat) : vsB f n (n - n) = [] := by rw [Nat.sub_self, vsB]
theorem valS_mk (l : List UInt8) (k : Nat) (n : Int) (t : ByteArray) : Wr.valS ⟨l.toArray⟩ k n t = ⟨(l ++ valL k n t).toArray⟩ := by
  unfold Wr.valS valL
  split
  · exact cat_mk _ _
  · simp
/-- how many, and the variables -/
def vsL (m : Nat) (f : Nat → Va) : List UInt8 := numL m ++ vsB f 0 m
def Va.fitW (v : Va) : Prop := v.nm.size ≤ 90000 ∧ v.k < 256 ∧ -9223372036854775808 ≤ v.n ∧ v.n ≤ 9223372036854775807 ∧ v.t.size ≤ 90000
theorem numsW_len {n : Nat} (h : n ≤ 100000) : numsW (nAt [(n : Int)]) 0 1 = false := by
  simp [numsW, nAt, numB]
  omega
theorem nums_one (x : Int) : nums (nAt [x]) 0 1 = numL x := by simp [nums, nAt]
theorem txts_one (x : ByteArray) : txts (tAt [x]) 0 1 = txt x := by simp [txts, tAt]

set_option maxRecDepth 100000 in
set_option maxHeartbeats 2000000 in
theorem vars_wr (W : Nat) (l : List UInt8) (wd : Bool) (o : Option Addr) (m c : Nat) (f : Nat → Va) (w : World) (hT : Wt w W l wd) (hS : Vr w o m f) (hO : Off o m W) (hn : m ≤ 100000) (hf : ∀ k, k < m → (f k).fitW)
    (hl : l.length + (vsL m f).length ≤ 700000) :
    Calls Tryz.prog 69 #[pt W, .slice o m c] w fun e w' => e = .returned (.tuple #[]) ∧ But W w w' ∧ Wt w' W (l ++ vsL m f) wd := by
  have hlt := Two.lt hT
  have H1 := nums_new W l wd [(m : Int)] 1 1 #[.int .i64 m] 3 w hT rfl rfl (by omega) (by rw [nums_one]; have := numL_len m; omega)
  rw [nums_one, numsW_len hn, Bool.or_false] at H1
  have H1 := Lib.hid H1
  have HS := Lib.hid hS
  have HF := Lib.hid hf
  have HO := Lib.hid hO
  have HL : Hid (l.length + (numL m).length + (vsB f 0 m).length ≤ 700000) := Lib.hid (by rw [vsL, List.length_append] at hl; omega)
  clear hS hf hT hO hl
  go_enter Tryz.func69, Tryz.ntmps69
  go_wp2_with (go_at_call 70; refine H1.out.mono ?_; rintro e w1 ⟨rfl, hb, h2⟩)
  have HB0 := Lib.hid hb
  have HT0 := Lib.hid h2
  clear hb h2 H1
  go_loopw [13] (fun i wr => ∃ (k : Nat) (p : List UInt8), k ≤ m ∧ i = .int .i64 k ∧ Hid (p ++ vsB f k (m - k) = vsB f 0 m) ∧ Hid (But W w wr) ∧ Hid (Wt wr W (l ++ numL m ++ p) wd)) (fun i _ => m - (intOf i).toNat)
  case atStart => exact ⟨0, [], Nat.zero_le _, rfl, Lib.hid rfl, HB0, Lib.hid (by rw [List.append_nil]; exact HT0.out)⟩
  case round =>
    obtain ⟨k, p, hk, rfl, HP, HB, HT⟩ := hrel
    by_cases hkm : k < m
    · obtain ⟨b, off, ho, hb, c0, c1, c2, c3⟩ := HS.out k hkm
      have hne : b ≠ W := HO.out b off none ho (by omega)
      have hsz := HF.out k hkm
      have hlen : (p ++ vsB f k (m - k)).length = (vsB f 0 m).length := congrArg List.length HP.out
      rw [vsB_at f k m hkm, List.length_append, List.length_append] at hlen
      rw [← HB.out.cell hb hne] at c0 c1 c2 c3
      obtain ⟨v, hv⟩ : ∃ v, f k = v := ⟨_, rfl⟩
      have HE : Hid (vsB f k (m - k) = varB v ++ vsB f (k + 1) (m - (k + 1))) := Lib.hid (by rw [vsB_at f k m hkm, hv])
      rw [hv] at c0 c1 c2 c3 hsz hlen
      obtain ⟨nm, vk, vn, vt⟩ := v
      obtain ⟨s1, s2, s3, s4, s5⟩ := hsz
      simp only at c0 c1 c2 c3 s1 s2 s3 s4 s5
      have hl2 := HL.out
      simp only [varB, List.length_append] at hlen
      have hwr := Two.lt HT.out
      have hbr : b < wr.heap.size := Nat.lt_of_lt_of_le hb HB.out.size
      obtain ⟨wv, hwv⟩ : ∃ wv, wv = wr.alloc (.cells #[.string nm, .int .u8 vk, .int .i64 vn, .string vt] 148) := ⟨_, rfl⟩
      have HTv : Hid (Wt wv W (l ++ numL m ++ p) wd) := Lib.hid (by rw [hwv]; exact Wt.al HT.out _)
      have TA := texts_new W (l ++ numL m ++ p) wd [nm] 1 1 #[.string nm] 9 wv HTv.out rfl rfl (by omega) (by simpa using s1) (by rw [txts_one, List.length_append, List.length_append]; omega)
      rw [txts_one] at TA
      have z1 : wv.heap.size = wr.heap.size + 1 := by rw [hwv]; simp
      have b1 : wv.cell? ⟨wr.heap.size, 1, none⟩ = some (.int .u8 vk) := by rw [hwv]; simp
      have b2 : wv.cell? ⟨wr.heap.size, 2, none⟩ = some (.int .i64 vn) := by rw [hwv]; simp
      have b3 : wv.cell? ⟨wr.heap.size, 3, none⟩ = some (.string vt) := by rw [hwv]; simp
      have HBv : Hid (But W w wv) := Lib.hid (by rw [hwv]; exact HB.out.trans (But.alloc W wr _))
      have VA := fun (w2 : World) => Wr.value_all ⟨(l ++ numL m ++ p ++ txt nm).toArray⟩ vk vn vt w2 (by rw [mk_size]; simp only [List.length_append]; omega) s2 s3 s4 s5
      rw [valS_mk] at VA
      obtain ⟨L2, hL2⟩ : ∃ L, L = l ++ numL m ++ p ++ txt nm := ⟨_, rfl⟩
      obtain ⟨L3, hL3⟩ : ∃ L, L = L2 ++ valL vk vn vt := ⟨_, rfl⟩
      rw [← hL2, ← hL3] at VA
      rw [← hL2] at TA
      have HL3 : Hid (L3 = l ++ numL m ++ (p ++ varB ⟨nm, vk, vn, vt⟩)) := Lib.hid (by rw [hL3, hL2, varB]; simp only [List.append_assoc])
      clear hL2 hL3
      have VA := Lib.hid VA
      rw [z1, hwv] at TA
      have TA := Lib.hid TA
      have Z1 := Lib.hid z1
      have HV := Lib.hid hwv
      have B1 := Lib.hid b1
      have B2 := Lib.hid b2
      have B3 := Lib.hid b3
      subst ho
      clear hb hne hv hlen hl2 hwv s1 s2 s3 s4 s5 b1 b2 b3 z1
      go_wp2_with (go_at_call 68; (first | with_reducible refine TA.out.mono ?_ | (trace_state; fail));  rintro e w2 ⟨rfl, hb2, h2⟩; have d1 : w2.cell? ⟨wr.heap.size, 1, none⟩ = some (.int .u8 vk) := (by rw [hb2.cell (by have := Z1.out; simp) (by omega), ← HV.out]; exact B1.out); have d2 : w2.cell? ⟨wr.heap.size, 2, none⟩ = some (.int .i64 vn) := (by rw [hb2.cell (by have := Z1.out; simp) (by omega), ← HV.out]; exact B2.out); have d3 : w2.cell? ⟨wr.heap.size, 3, none⟩ = some (.string vt) := (by rw [hb2.cell (by have := Z1.out; simp) (by omega), ← HV.out]; exact B3.out))
      have T0 := Two.c0 h2
      have F0 := Two.fz h2 0
      have h2' : Two w2.drew W 139 (strL' L2) (.bool wd) := h2
      have HT2 := Lib.hid h2'
      clear h2'
      have hw2 := Two.lt h2
      go_region_with (go_at_call 73; with_reducible refine (VA.out _).mono ?_; rintro e w3 ⟨rfl, hb3⟩; have hT3 := Two.keptB HT2.out hb3 (Two.lt HT2.out); have T3 := Two.c0 hT3; have F3 := Two.fz hT3 0)
      all_goals
        go_wp2
        go_roundw
        case rel => exact ⟨k + 1, p ++ varB ⟨nm, vk, vn, vt⟩, by omega, by go_num, Lib.hid (by rw [List.append_assoc, ← HE.out]; exact HP.out), Lib.hid (((HBv.out.trans (by rw [HV.out]; exact hb2)).trans (But.drewN W w2 1)).trans ((But.of_below hb3).trans (But.setCell W w3 0 _))), Lib.hid (by rw [← HL3.out]; exact hT3.set0 _)⟩
        case measure => simp [intOf]; omega
    · obtain rfl : k = m := by omega
      have HE : Hid (p = vsB f 0 k) := Lib.hid (by have := HP.out; rw [vsB_end, List.append_nil] at this; exact this)
      go_wp2
      refine bodyPost_end (v := .tuple #[]) (by simp [results, Tryz.results69, go_sem]) rfl ⟨rfl, HB.out, ?_⟩
      unfold vsL
      rw [← List.append_assoc, ← HE.out]
      exact HT.out
end Go.Proofs.YtjakdbahopbggaaGreatDoor
end
