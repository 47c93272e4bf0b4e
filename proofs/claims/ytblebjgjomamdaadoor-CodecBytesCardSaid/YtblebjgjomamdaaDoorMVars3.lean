/- What model.Vars returns. Conditions: the tables as laid; lengths are lengths. -/
import Derived.Test.YtblebjgjomamdaaDoorMVars2
namespace Go.Proofs.YtblebjgjomamdaaDoor
open Go.RowKit Go.Ow

/-- is each variable from k on, m of them, so, and none of one ahead of it has its name? -/
def unlikeF (f : Nat → Va) : Nat → Nat → Bool
  | _, 0 => true
  | k, m + 1 => (varOk (f k) && !anyB (fun j => decide ((f j).nm = (f k).nm)) k) && unlikeF f (k + 1) m
theorem unlike_at (f : Nat → Va) (k n : Nat) (h : k < n) : unlikeF f k (n - k) = ((varOk (f k) && !anyB (fun j => decide ((f j).nm = (f k).nm)) k) && unlikeF f (k + 1) (n - (k + 1))) := by
  have : n - k = n - (k + 1) + 1 := by omega
  rw [this, unlikeF]
theorem unlike_end (f : Nat → Va) (n : Nat) : unlikeF f n (n - n) = true := by rw [Nat.sub_self, unlikeF]
abbrev fnName : Value := .func (.func 55) #[] #[]
abbrev fnMay : Value := .func (.func 52) #[] #[]

set_option maxRecDepth 100000 in
set_option maxHeartbeats 4000000 in
theorem unlike_var {A : Nat → Nat × Nat} (o : Option Addr) (m cap : Nat) (f : Nat → Va) (w : World) (hG : Gl A w) (h : Vr w o m f) (hf : ∀ k, (f k).fit) (hm : m ≤ 9223372036854775807) (hcap : m ≤ cap) :
    Calls Tryd.prog 54 #[.slice o m cap, fnName, fnMay] w fun e w' => e = .returned (.bool (unlikeF f 0 m)) ∧ Below w.heap.size w w' := by
  have H := Lib.hid h
  have HG := Lib.hid hG
  have HF := Lib.hid hf
  clear h hG hf
  obtain ⟨r, hr⟩ : ∃ r, unlikeF f 0 m = r := ⟨_, rfl⟩
  rw [hr]
  have HR := Lib.hid hr
  clear hr
  have HB0 := Lib.hid (((Below.refl w.heap.size w).alloc (Nat.le_refl _) (.cells #[fnName] 100)))
  have hfn : (w.alloc (.cells #[fnName] 100)).cell? ⟨w.heap.size, 0, none⟩ = some fnName := by simp
  have HFN := Lib.hid hfn
  clear hfn
  go_enter Tryd.func54, Tryd.ntmps54
  go_wp2
  go_loopw [11] (fun i wr => ∃ j : Nat, j ≤ m ∧ i = .int .i64 j ∧ Hid (unlikeF f j (m - j) = r) ∧ Below w.heap.size w wr ∧ w.heap.size < wr.heap.size ∧ wr.cell? ⟨w.heap.size, 0, none⟩ = some fnName) (fun i _ => m - (intOf i).toNat)
  case atStart => exact ⟨0, Nat.zero_le _, rfl, HR, HB0.out, by simp, HFN.out⟩
  case round =>
    clear HFN HB0
    obtain ⟨j, hj, rfl, HK, hB, hz, hfn⟩ := hrel
    have HB := Lib.hid hB
    have HFN := Lib.hid hfn
    clear hB hfn
    by_cases hlt : j < m
    · have HV := Lib.hid (H.out.below HB.out)
      obtain ⟨b, off, rfl, hb, c0, c1, c2, c3⟩ := HV.out j hlt
      have E := Lib.hid (unlike_at f j m hlt)
      have hfit := HF.out j
      obtain ⟨v, hv⟩ : ∃ v, f j = v := ⟨_, rfl⟩
      rw [hv] at c0 c1 c2 c3 E hfit
      clear hv
      obtain ⟨va, vk, vn, vt⟩ := v
      simp only at c0 c1 c2 c3 E
      have FIT := Lib.hid hfit
      clear hfit
      -- the variable in a box of its own
      obtain ⟨w1, hw1⟩ : ∃ w1, w1 = wr.alloc (.cells #[.string va, .int .u8 vk, .int .i64 vn, .string vt] 49) := ⟨_, rfl⟩
      have hb1 : Below wr.heap.size wr w1 := by rw [hw1]; exact (Below.refl _ _).alloc (Nat.le_refl _) _
      have hcp : Cpt w1 w.heap.size wr.heap.size va vk vn vt := by
        refine ⟨Nat.lt_of_lt_of_le hz hb1.size, by rw [hw1]; simp, by rw [hb1.cell (p := ⟨w.heap.size, 0, none⟩) hz]; exact HFN.out, ?_, ?_, ?_, ?_⟩ <;> rw [hw1] <;> simp
      have V1 := vars1_any va vk vn vt w1 ((HG.out.below HB.out).below hb1) FIT.out
      have VC := fun w2 (hb2 : Below w1.heap.size w1 w2) => containsf_var w.heap.size wr.heap.size va vk vn vt (some ⟨b, off, none⟩) j cap f w2 (((HV.out.below hb1).below hb2).less (by omega)) (hcp.below hb2) (by omega)
      have hB1 := below_step HB.out hb1
      have hz1 := hb1.size
      have hcell1 := (hcp.below (Below.refl _ _)).f
      rw [hw1] at V1 VC hB1 hz1 hcell1
      have HB1 := Lib.hid hB1
      have HCE := Lib.hid hcell1
      clear hcp hb1 hw1 hB1 w1 hcell1
      cases ho : varOk ⟨va, vk, vn, vt⟩
      · have HE : Hid (false = r) := Lib.hid (by have := HK.out; rw [E.out, ho] at this; simpa using this)
        rw [ho] at V1
        have V1 := Lib.hid V1
        clear ho E VC
        go_wp2_with (go_at_call 52; refine V1.out.mono ?_; rintro e w2 ⟨rfl, hb2⟩)
        go_ret
        exact ⟨ret_bool HE.out, below_step HB1.out hb2⟩
      · rw [ho] at V1
        have V1 := Lib.hid V1
        cases ha : anyB (fun i => decide ((f i).nm = va)) j
        · have HE : Hid (unlikeF f (j + 1) (m - (j + 1)) = r) := Lib.hid (by have := HK.out; rw [E.out, ho, ha] at this; simpa using this)
          rw [ha] at VC
          have VC := Lib.hid VC
          clear ho ha E
          go_wp2_with (first | (go_at_call 52; refine V1.out.mono ?_; rintro e w2 ⟨rfl, hb2⟩; have HB2 := Lib.hid hb2; clear hb2) | (go_at_call 89; refine (VC.out _ HB2.out).mono ?_; rintro e w3 ⟨rfl, hb3⟩; have HB3 := Lib.hid hb3; clear hb3))
          go_roundw
          case rel => exact ⟨j + 1, by omega, by go_num, HE, below_step (below_step HB1.out HB2.out) HB3.out, by have := HB2.out.size; have := HB3.out.size; omega, by rw [HB3.out.cell (p := ⟨w.heap.size, 0, none⟩) (by have := HB2.out.size; simp only; omega), HB2.out.cell (p := ⟨w.heap.size, 0, none⟩) (by simp only; omega)]; exact HCE.out⟩
          case measure => simp [intOf]; omega
        · have HE : Hid (false = r) := Lib.hid (by have := HK.out; rw [E.out, ho, ha] at this; simpa using this)
          rw [ha] at VC
          have VC := Lib.hid VC
          clear ho ha E
          go_wp2_with (first | (go_at_call 52; refine V1.out.mono ?_; rintro e w2 ⟨rfl, hb2⟩; have HB2 := Lib.hid hb2; clear hb2) | (go_at_call 89; refine (VC.out _ HB2.out).mono ?_; rintro e w3 ⟨rfl, hb3⟩; have HB3 := Lib.hid hb3; clear hb3))
          go_ret
          exact ⟨ret_bool HE.out, below_step (below_step HB1.out HB2.out) HB3.out⟩
    · obtain rfl : j = m := by omega
      have HE : Hid (true = r) := Lib.hid (by have := HK.out; rw [unlike_end] at this; exact this)
      go_wp2
      go_ret
      exact ⟨ret_bool HE.out, HB.out⟩

/-- what Vars says of so many variables -/
def varsE (m : Nat) (f : Nat → Va) : Nat := if 8 < m then 40 else if unlikeF f 0 m then 0 else 4
theorem vars_any {A : Nat → Nat × Nat} (o : Option Addr) (m cap : Nat) (f : Nat → Va) (w : World) (hG : Gl A w) (h : Vr w o m f) (hf : ∀ k, (f k).fit) (hm : m ≤ 9223372036854775807) (hcap : m ≤ cap) :
    Calls Tryd.prog 33 #[.slice o m cap] w fun e w' => e = .returned (.int .i64 (varsE m f)) ∧ Below w.heap.size w w' := by
  unfold varsE
  by_cases h8 : 8 < m
  · rw [if_pos h8]
    clear hG h hf
    go_enter Tryd.func33, Tryd.ntmps33
    go_wp2
    go_ret
    exact ⟨rfl, Below.refl _ _⟩
  · rw [if_neg h8]
    have U := unlike_var o m cap f w hG h hf hm hcap
    clear hG h hf
    cases hu : unlikeF f 0 m
    · rw [hu] at U
      have U := Lib.hid U
      clear hu
      go_enter Tryd.func33, Tryd.ntmps33
      go_wp2_with (go_at_call 54; refine U.out.mono ?_; rintro e w2 ⟨rfl, hb2⟩)
      go_ret
      exact ⟨rfl, hb2⟩
    · rw [hu] at U
      have U := Lib.hid U
      clear hu
      go_enter Tryd.func33, Tryd.ntmps33
      go_wp2_with (go_at_call 54; refine U.out.mono ?_; rintro e w2 ⟨rfl, hb2⟩)
      go_ret
      exact ⟨rfl, hb2⟩
end Go.Proofs.YtblebjgjomamdaaDoor
