/- What the codec's writer writes for variables. Conditions: the bytes are not too many. -/
import Derived.Test.YtblebjgjomamdaaDoorCw1
import Derived.Deep.RegionWith
namespace Go.Proofs.YtblebjgjomamdaaDoor
open Go.RowKit Go.Ow Go.Wi

/-- a value's bytes, where it may be told -/
def valL (k : Nat) (n : Int) (t : ByteArray) : List UInt8 := if may k n t then encV k n t else []
def varB (v : Va) : List UInt8 := txt v.nm ++ valL v.k v.n v.t
def vsB (f : Nat → Va) : Nat → Nat → List UInt8
  | _, 0 => []
  | k, n + 1 => varB (f k) ++ vsB f (k + 1) n
theorem vsB_at (f : Nat → Va) (k n : Nat) (h : k < n) : vsB f k (n - k) = varB (f k) ++ vsB f (k + 1) (n - (k + 1)) := by
  have : n - k = n - (k + 1) + 1 := by omega
  rw [this, vsB]
theorem vsB_end (f : Nat → Va) (n : Nat) : vsB f n (n - n) = [] := by rw [Nat.sub_self, vsB]
theorem valS_mk (l : List UInt8) (k : Nat) (n : Int) (t : ByteArray) : Wr.valS ⟨l.toArray⟩ k n t = ⟨(l ++ valL k n t).toArray⟩ := by
  unfold Wr.valS valL
  split
  · exact cat_mk _ _
  · simp
/-- how many, and the variables -/
def vsL (m : Nat) (f : Nat → Va) : List UInt8 := numL m ++ vsB f 0 m
def Va.fitW (v : Va) : Prop := v.nm.size ≤ 90000 ∧ v.k < 256 ∧ -9223372036854775808 ≤ v.n ∧ v.n ≤ 9223372036854775807 ∧ v.t.size ≤ 90000
theorem numsW_len {n : Nat} (h : n ≤ 100000) : numsW (nAt [(n : Int)]) 0 1 = false := by
  simp [numsW, nAt, numB]
  omega
theorem nums_one (x : Int) : nums (nAt [x]) 0 1 = numL x := by simp [nums, nAt]
theorem txts_one (x : ByteArray) : txts (tAt [x]) 0 1 = txt x := by simp [txts, tAt]

set_option maxRecDepth 100000 in
set_option maxHeartbeats 2000000 in
theorem vars_wr (W : Nat) (l : List UInt8) (wd : Bool) (o : Option Addr) (m c : Nat) (f : Nat → Va) (w : World) (hT : Wt w W l wd) (hS : Vr w o m f) (hO : Off o m W) (hn : m ≤ 100000) (hf : ∀ k, k < m → (f k).fitW)
    (hl : l.length + (vsL m f).length ≤ 700000) :
    Calls Tryd.prog 17 #[pt W, .slice o m c] w fun e w' => e = .returned (.tuple #[]) ∧ But W w w' ∧ Wt w' W (l ++ vsL m f) wd := by
  have hlt := Two.lt hT
  have H1 := nums_new W l wd [(m : Int)] 1 1 #[.int .i64 m] 3 w hT rfl rfl (by omega) (by rw [nums_one]; have := numL_len m; omega)
  rw [nums_one, numsW_len hn, Bool.or_false] at H1
  have H1 := Lib.hid H1
  have HS := Lib.hid hS
  have HF := Lib.hid hf
  have HO := Lib.hid hO
  have HL : Hid (l.length + (numL m).length + (vsB f 0 m).length ≤ 700000) := Lib.hid (by rw [vsL, List.length_append] at hl; omega)
  clear hS hf hT hO hl
  go_enter Tryd.func17, Tryd.ntmps17
  go_wp2_with (go_at_call 18; refine H1.out.mono ?_; rintro e w1 ⟨rfl, hb, h2⟩)
  have HB0 := Lib.hid hb
  have HT0 := Lib.hid h2
  clear hb h2 H1
  go_loopw [13] (fun i wr => ∃ (k : Nat) (p : List UInt8), k ≤ m ∧ i = .int .i64 k ∧ Hid (p ++ vsB f k (m - k) = vsB f 0 m) ∧ Hid (But W w wr) ∧ Hid (Wt wr W (l ++ numL m ++ p) wd)) (fun i _ => m - (intOf i).toNat)
  case atStart => exact ⟨0, [], Nat.zero_le _, rfl, Lib.hid rfl, HB0, Lib.hid (by rw [List.append_nil]; exact HT0.out)⟩
  case round =>
    obtain ⟨k, p, hk, rfl, HP, HB, HT⟩ := hrel
    by_cases hkm : k < m
    · obtain ⟨b, off, ho, hb, c0, c1, c2, c3⟩ := HS.out k hkm
      have hne : b ≠ W := HO.out b off none ho (by omega)
      have hsz := HF.out k hkm
      have hlen : (p ++ vsB f k (m - k)).length = (vsB f 0 m).length := congrArg List.length HP.out
      rw [vsB_at f k m hkm, List.length_append, List.length_append] at hlen
      rw [← HB.out.cell hb hne] at c0 c1 c2 c3
      obtain ⟨v, hv⟩ : ∃ v, f k = v := ⟨_, rfl⟩
      have HE : Hid (vsB f k (m - k) = varB v ++ vsB f (k + 1) (m - (k + 1))) := Lib.hid (by rw [vsB_at f k m hkm, hv])
      rw [hv] at c0 c1 c2 c3 hsz hlen
      obtain ⟨nm, vk, vn, vt⟩ := v
      obtain ⟨s1, s2, s3, s4, s5⟩ := hsz
      simp only at c0 c1 c2 c3 s1 s2 s3 s4 s5
      have hl2 := HL.out
      simp only [varB, List.length_append] at hlen
      have hwr := Two.lt HT.out
      have hbr : b < wr.heap.size := Nat.lt_of_lt_of_le hb HB.out.size
      obtain ⟨wv, hwv⟩ : ∃ wv, wv = wr.alloc (.cells #[.string nm, .int .u8 vk, .int .i64 vn, .string vt] 49) := ⟨_, rfl⟩
      have HTv : Hid (Wt wv W (l ++ numL m ++ p) wd) := Lib.hid (by rw [hwv]; exact Wt.al HT.out _)
      have TA := texts_new W (l ++ numL m ++ p) wd [nm] 1 1 #[.string nm] 9 wv HTv.out rfl rfl (by omega) (by simpa using s1) (by rw [txts_one, List.length_append, List.length_append]; omega)
      rw [txts_one] at TA
      have z1 : wv.heap.size = wr.heap.size + 1 := by rw [hwv]; simp
      have b1 : wv.cell? ⟨wr.heap.size, 1, none⟩ = some (.int .u8 vk) := by rw [hwv]; simp
      have b2 : wv.cell? ⟨wr.heap.size, 2, none⟩ = some (.int .i64 vn) := by rw [hwv]; simp
      have b3 : wv.cell? ⟨wr.heap.size, 3, none⟩ = some (.string vt) := by rw [hwv]; simp
      have HBv : Hid (But W w wv) := Lib.hid (by rw [hwv]; exact HB.out.trans (But.alloc W wr _))
      have VA := fun (w2 : World) => Wr.value_all ⟨(l ++ numL m ++ p ++ txt nm).toArray⟩ vk vn vt w2 (by rw [mk_size]; simp only [List.length_append]; omega) s2 s3 s4 s5
      rw [valS_mk] at VA
      obtain ⟨L2, hL2⟩ : ∃ L, L = l ++ numL m ++ p ++ txt nm := ⟨_, rfl⟩
      obtain ⟨L3, hL3⟩ : ∃ L, L = L2 ++ valL vk vn vt := ⟨_, rfl⟩
      rw [← hL2, ← hL3] at VA
      rw [← hL2] at TA
      have HL3 : Hid (L3 = l ++ numL m ++ (p ++ varB ⟨nm, vk, vn, vt⟩)) := Lib.hid (by rw [hL3, hL2, varB]; simp only [List.append_assoc])
      clear hL2 hL3
      have VA := Lib.hid VA
      rw [z1, hwv] at TA
      have TA := Lib.hid TA
      have Z1 := Lib.hid z1
      have HV := Lib.hid hwv
      have B1 := Lib.hid b1
      have B2 := Lib.hid b2
      have B3 := Lib.hid b3
      subst ho
      clear hb hne hv hlen hl2 hwv s1 s2 s3 s4 s5 b1 b2 b3 z1
      go_wp2_with (go_at_call 16; (first | with_reducible refine TA.out.mono ?_ | (trace_state; fail));  rintro e w2 ⟨rfl, hb2, h2⟩; have d1 : w2.cell? ⟨wr.heap.size, 1, none⟩ = some (.int .u8 vk) := (by rw [hb2.cell (by have := Z1.out; simp) (by omega), ← HV.out]; exact B1.out); have d2 : w2.cell? ⟨wr.heap.size, 2, none⟩ = some (.int .i64 vn) := (by rw [hb2.cell (by have := Z1.out; simp) (by omega), ← HV.out]; exact B2.out); have d3 : w2.cell? ⟨wr.heap.size, 3, none⟩ = some (.string vt) := (by rw [hb2.cell (by have := Z1.out; simp) (by omega), ← HV.out]; exact B3.out))
      have T0 := Two.c0 h2
      have F0 := Two.fz h2 0
      have h2' : Two w2.drew W 53 (strL' L2) (.bool wd) := h2
      have HT2 := Lib.hid h2'
      clear h2'
      have hw2 := Two.lt h2
      go_region_with (go_at_call 37; with_reducible refine (VA.out _).mono ?_; rintro e w3 ⟨rfl, hb3⟩; have hT3 := Two.keptB HT2.out hb3 (Two.lt HT2.out); have T3 := Two.c0 hT3; have F3 := Two.fz hT3 0)
      all_goals
        go_wp2
        go_roundw
        case rel => exact ⟨k + 1, p ++ varB ⟨nm, vk, vn, vt⟩, by omega, by go_num, Lib.hid (by rw [List.append_assoc, ← HE.out]; exact HP.out), Lib.hid (((HBv.out.trans (by rw [HV.out]; exact hb2)).trans (But.drewN W w2 1)).trans ((But.of_below hb3).trans (But.setCell W w3 0 _))), Lib.hid (by rw [← HL3.out]; exact hT3.set0 _)⟩
        case measure => simp [intOf]; omega
    · obtain rfl : k = m := by omega
      have HE : Hid (p = vsB f 0 k) := Lib.hid (by have := HP.out; rw [vsB_end, List.append_nil] at this; exact this)
      go_wp2
      refine bodyPost_end (v := .tuple #[]) (by simp [results, Tryd.results17, go_sem]) rfl ⟨rfl, HB.out, ?_⟩
      unfold vsL
      rw [← List.append_assoc, ← HE.out]
      exact HT.out
end Go.Proofs.YtblebjgjomamdaaDoor
