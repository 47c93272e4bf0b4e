/- What model.Vars returns. Conditions: the tables as laid; lengths are lengths. -/
import Derived.Test.YtjakdbahopbggaaGreatDoorZMVars2
section
namespace Go.Proofs.YtjakdbahopbggaaGreatDoor
open Go.RowKit Go.Ow

/-- is each variable from k on, m of them, so, and none of one ahead of it has its name? -/
def unlikeF (f : Nat → Va) : Nat → Nat → Bool
  | _, 0 => true
  | k, m + 1 => (varOk (f k) && !anyB (fun j => decide ((f j).nm = (f k).nm)) k) && unlikeF f (k + 1) m
theorem unlike_at (f : Nat → Va) (k n : Nat) (h : k < n) : unlikeF f k (n - k) = ((varOk (f k) && !anyB (fun j => decide ((f j).nm = (f k).nm)) k) && unlikeF f (k + 1) (n - (k + 1))) := by
  have : n - k = n - (k + 1) + 1 := by omega
  rw [this, unlikeF]
theorem unlike_end (f : Nat → Va) (n : Nat) : unlikeF f n (n - n) = true := by rw [Nat.sub_self, unlikeF]
abbrev fnName : Value := .func (.func 109) #[] #[]
abbrev fnMay : Value := .func (.func 106) #[] #[]

set_option maxRecDepth 100000 in
set_option maxHeartbeats 4000000 in
theorem unlike_var {A : Nat → Nat × Nat} (o : Option Addr) (m cap : Nat) (f : Nat → Va) (w : World) (hG : Gl A w) (h : Vr w o m f) (hf : ∀ k, (f k).fit) (hm : m ≤ 9223372036854775807) (hcap : m ≤ cap) :
    Calls Tryz.prog 108 #[.slice o m cap, fnName, fnMay] w fun e w' => e = .returned (.bool (unlikeF f 0 m)) ∧ Below w.heap.size w w' := by
  have H := Lib.hid h
  have HG := Lib.hid hG
  have HF := Lib.hid hf
  clear h hG hf
  obtain ⟨r, hr⟩ : ∃ r, unlikeF f 0 m = r := ⟨_, rfl⟩
  rw [hr]
  have HR := Lib.hid hr
  clear hr
  have HB0 := Lib.hid (((Below.refl w.heap.size w).alloc (Nat.le_refl _) (.cells #[fnName] 182)))
  have hfn : (w.alloc (.cells #[fnName] 182)).cell? ⟨w.heap.size, 0, none⟩ = some fnName := by simp
  have HFN := Lib.hid hfn
  clear hfn
  go_enter Tryz.func108, Tryz.ntmps108
  go_wp2
  go_loopw [11] (fun i wr => ∃ j : Nat, j ≤ m ∧ i = .int .i64 j ∧ Hid (unlikeF f j (m - j) = r) ∧ Below w.heap.size w wr ∧ w.heap.size < wr.heap.size ∧ wr.cell? ⟨w.heap.size, 0, none⟩ = some fnName) (fun i _ => m - (intOf i).toNat)
  case atStart => exact ⟨0, Nat.zero_le _, rfl, HR, HB0.out, by simp, HFN.out⟩
  case round =>
    clear HFN HB0
    obtain ⟨j, hj, rfl, HK, hB, hz, hfn⟩ := hrel
    have HB := Lib.hid hB
    have HFN := Lib.hid hfn
    clear hB hfn
    by_cases hlt : j < m
    · have HV := Lib.hid (H.out.below HB.out)
      obtain ⟨b, off, rfl, hb, c0, c1, c2, c3⟩ := HV.out j hlt
      have E := Lib.hid (unlike_at f j m hlt)
      have hfit := HF.out j
      obtain ⟨v, hv⟩ : ∃ v, f j = v := ⟨_, rfl⟩
      rw [hv] at c0 c1 c2 c3 E hfit
      clear hv
      obtain ⟨va, vk, vn, vt⟩ := v
      simp only at c0 c1 c2 c3 E
      have FIT := Lib.hid hfit
      clear hfit
      -- the variable in a box of its own
      obtain ⟨w1, hw1⟩ : ∃ w1, w1 = wr.alloc (.cells #[.string va, .int .u8 vk, .int .i64 vn, .string vt] 148) := ⟨_, rfl⟩
      have hb1 : Below wr.heap.size wr w1 := by rw [hw1]; exact (Below.refl _ _).alloc (Nat.le_refl _) _
      have hcp : Cpt w1 w.heap.size wr.heap.size va vk vn vt := by
        refine ⟨Nat.lt_of_lt_of_le hz hb1.size, by rw [hw1]; simp, by rw [hb1.cell (p := ⟨w.heap.size, 0, none⟩) hz]; exact HFN.out, ?_, ?_, ?_, ?_⟩ <;> rw [hw1] <;> simp
      have V1 := vars1_any va vk vn vt w1 ((HG.out.below HB.out).below hb1) FIT.out
      have VC := fun w2 (hb2 : Below w1.heap.size w1 w2) => containsf_var w.heap.size wr.heap.size va vk vn vt (some ⟨b, off, none⟩) j cap f w2 (((HV.out.below hb1).below hb2).less (by omega)) (hcp.below hb2) (by omega)
      have hB1 := below_step HB.out hb1
      have hz1 := hb1.size
      have hcell1 := (hcp.below (Below.refl _ _)).f
      rw [hw1] at V1 VC hB1 hz1 hcell1
      have HB1 := Lib.hid hB1
      have HCE := Lib.hid hcell1
      clear hcp hb1 hw1 hB1 w1 hcell1
      cases ho : varOk ⟨va, vk, vn, vt⟩
      · have HE : Hid (false = r) := Lib.hid (by have := HK.out; rw [E.out, ho] at this; simpa using this)
        rw [ho] at V1
        have V1 := Lib.hid V1
        clear ho E VC
        go_wp2_with (go_at_call 106; refine V1.out.mono ?_; rintro e w2 ⟨rfl, hb2⟩)
        go_ret
        exact ⟨ret_bool HE.out, below_step HB1.out hb2⟩
      · rw [ho] at V1
        have V1 := Lib.hid V1
        cases ha : anyB (fun i => decide ((f i).nm = va)) j
        · have HE : Hid (unlikeF f (j + 1) (m - (j + 1)) = r) := Lib.hid (by have := HK.out; rw [E.out, ho, ha] at this; simpa using this)
          rw [ha] at VC
          have VC := Lib.hid VC
          clear ho ha E
          go_wp2_with (first | (go_at_call 106; refine V1.out.mono ?_; rintro e w2 ⟨rfl, hb2⟩; have HB2 := Lib.hid hb2; clear hb2) | (go_at_call 132; refine (VC.out _ HB2.out).mono ?_; rintro e w3 ⟨rfl, hb3⟩; have HB3 := Lib.hid hb3; clear hb3))
          go_roundw
          case rel => exact ⟨j + 1, by omega, by go_num, HE, below_step (below_step HB1.out HB2.out) HB3.out, by have := HB2.out.size; have := HB3.out.size; omega, by rw [HB3.out.cell (p := ⟨w.heap.size, 0, none⟩) (by have := HB2.out.size; simp only; omega), HB2.out.cell (p := ⟨w.heap.size, 0, none⟩) (by simp only; omega)]; exact HCE.out⟩
          case measure => simp [intOf]; omega
        · have HE : Hid (false = r) := Lib.hid (by have := HK.out; rw [E.out, ho, ha] at this; simpa using this)
          rw [ha] at VC
          have VC := Lib.hid VC
          clear ho ha E
          go_wp2_with (first | (go_at_call 106; refine V1.out.mono ?_; rintro e w2 ⟨rfl, hb2⟩; have HB2 := Lib.hid hb2; clear hb2) | (go_at_call 132; refine (VC.out _ HB2.out).mono ?_; rintro e w3 ⟨rfl, hb3⟩; have HB3 := Lib.hid hb3; clear hb3))
          go_ret
          exact ⟨ret_bool HE.out, below_step (below_step HB1.out HB2.out) HB3.out⟩
    · obtain rfl : j = m := by omega
      have HE : Hid (true = r) := Lib.hid (by have := HK.out; rw [unlike_end] at this; exact this)
      go_wp2
      go_ret
      exact ⟨ret_bool HE.out, HB.out⟩

/-- what Vars says of so many variables -/
def varsE (m : Nat) (f : Nat → Va) : Nat := if 8 < m then 40 else if unlikeF f 0 m then 0 else 4
theorem vars_any {A : Nat → Nat × Nat} (o : Option Addr) (m cap : Nat) (f : Nat → Va) (w : World) (hG : Gl A w) (h : Vr w o m f) (hf : ∀ k, (f k).fit) (hm : m ≤ 9223372036854775807) (hcap : m ≤ cap) :
    Calls Tryz.prog 91 #[.slice o m cap] w fun e w' => e = .returned (.int .i64 (varsE m f)) ∧ Below w.heap.size w w' := by
  unfold varsE
  by_cases h8 : 8 < m
  · rw [if_pos h8]
    clear hG h hf
    go_enter Tryz.func91, Tryz.ntmps91
    go_wp2
    go_ret
    exact ⟨rfl, Below.refl _ _⟩
  · rw [if_neg h8]
    have U := unlike_var o m cap f w hG h hf hm hcap
    clear hG h hf
    cases hu : unlikeF f 0 m
    · rw [hu] at U
      have U := Lib.hid U
      clear hu
      go_enter Tryz.func91, Tryz.ntmps91
      go_wp2_with (go_at_call 108; refine U.out.mono ?_; rintro e w2 ⟨rfl, hb2⟩)
      go_ret
      exact ⟨rfl, hb2⟩
    · rw [hu] at U
      have U := Lib.hid U
      clear hu
      go_enter Tryz.func91, Tryz.ntmps91
      go_wp2_with (go_at_call 108; refine U.out.mono ?_; rintro e w2 ⟨rfl, hb2⟩)
      go_ret
      exact ⟨rfl, hb2⟩
end Go.Proofs.YtjakdbahopbggaaGreatDoor
end
/- What model.unlike returns over texts (a Call's Back). Conditions: the tables as laid; lengths are lengths. -/
section
namespace Go.Proofs.YtjakdbahopbggaaGreatDoor
open Go.RowKit Go.Ow

theorem ident_any (a : ByteArray) (w : World) : Calls Tryz.prog 125 #[.string a] w fun e w' => e = .returned (.string a) ∧ w = w' := by
  go_enter Tryz.func125, Tryz.ntmps125
  go_wp2
  go_ret
  exact ⟨rfl, rfl⟩
theorem ident_quiet (a : ByteArray) (w : World) (n : Nat) : Calls Tryz.prog 125 #[.string a] (w.drewN n) fun e w'' => e = .returned (.string a) ∧ ∃ m, w'' = w.drewN m :=
  (ident_any a (w.drewN n)).mono fun _ _ ⟨he, hw⟩ => ⟨he, n, hw.symm⟩
abbrev fnIdent : Value := .func (.func 125) #[] #[]
abbrev fnIsName : Value := .func (.func 90) #[] #[]
/-- the two captured variables of unlike's closure over texts -/
structure Cps (w : World) (N X : Nat) (a : ByteArray) : Prop where
  ln : N < w.heap.size
  lx : X < w.heap.size
  f : w.cell? ⟨N, 0, none⟩ = some fnIdent
  c0 : w.cell? ⟨X, 0, none⟩ = some (.string a)
theorem Cps.below {w wr : World} {N X : Nat} {a : ByteArray} (h : Cps w N X a) (hb : Below w.heap.size w wr) : Cps wr N X a :=
  ⟨Nat.lt_of_lt_of_le h.ln hb.size, Nat.lt_of_lt_of_le h.lx hb.size, by rw [hb.cell (p := ⟨N, 0, none⟩) h.ln]; exact h.f, by rw [hb.cell (p := ⟨X, 0, none⟩) h.lx]; exact h.c0⟩
theorem Ss.less {w : World} {o : Option Addr} {n m : Nat} {f : Nat → ByteArray} (h : Ss w o n f) (hm : m ≤ n) : Ss w o m f := fun k hk => h k (by omega)

theorem alikes_any (N X : Nat) (a a' : ByteArray) (w : World) (h : Cps w N X a') :
    Calls Tryz.prog 136 #[.string a, pt N, pt X] w fun e w' => e = .returned (.bool (decide (a = a'))) ∧ Below w.heap.size w w' := by
  obtain ⟨_, _, hf, h0⟩ := h
  by_cases e : a = a'
  · subst e
    rw [decide_eq_true rfl]
    go_enter Tryz.func136, Tryz.ntmps136
    go_wp2
    go_quiet ((go_at_call 125; exact ident_quiet _ _ _))
    go_wp2
    go_ret
    exact ⟨rfl, Below.drewN _ _⟩
  · rw [decide_eq_false e]
    have n1 := toList_ne e
    have n2 := toList_beq e
    clear e
    go_enter Tryz.func136, Tryz.ntmps136
    go_wp2
    go_quiet ((go_at_call 125; exact ident_quiet _ _ _))
    go_wp2
    go_ret
    exact ⟨rfl, Below.drewN _ _⟩
theorem indexf_str (N X : Nat) (a : ByteArray) (o : Option Addr) (m cap : Nat) (f : Nat → ByteArray) (w : World) (h : Ss w o m f) (hc : Cps w N X a) (hm : m ≤ 9223372036854775807) :
    Calls Tryz.prog 142 #[.slice o m cap, .func (.func 136) #[] #[pt N, pt X]] w fun e w' => e = .returned (.int .i64 (fI (fun j => decide (f j = a)) 0 m)) ∧ Below w.heap.size w w' := by
  have H := Lib.hid h
  have HC := Lib.hid hc
  clear h hc
  obtain ⟨r, hr⟩ : ∃ r, fI (fun j => decide (f j = a)) 0 m = r := ⟨_, rfl⟩
  rw [hr]
  have HR := Lib.hid hr
  clear hr
  go_enter Tryz.func142, Tryz.ntmps142
  go_wp2
  go_loopw [8] (fun i wr => ∃ j : Nat, j ≤ m ∧ i = .int .i64 j ∧ Hid (fI (fun j => decide (f j = a)) j (m - j) = r) ∧ Below w.heap.size w wr) (fun i _ => m - (intOf i).toNat)
  case atStart => exact ⟨0, Nat.zero_le _, rfl, HR, Below.refl _ _⟩
  case round =>
    obtain ⟨j, hj, rfl, HK, hB⟩ := hrel
    have HB := Lib.hid hB
    clear hB
    by_cases hlt : j < m
    · obtain ⟨b, off, rfl, hb, c0⟩ := (H.out.below HB.out) j hlt
      have E := Lib.hid (fI_at (fun j => decide (f j = a)) j m hlt)
      have hca := fun a1 => alikes_any N X a1 a wr (HC.out.below HB.out)
      obtain ⟨v, hv⟩ : ∃ v, f j = v := ⟨_, rfl⟩
      rw [hv] at c0 E
      clear hv
      have CA := hca v
      clear hca
      by_cases e : v = a
      · have HE : Hid ((j : Int) = r) := Lib.hid (by have := HK.out; rw [E.out, decide_eq_true e] at this; simpa using this)
        rw [decide_eq_true e] at CA
        have CA := Lib.hid CA
        clear e E
        go_wp2_with (go_at_call 136; refine CA.out.mono ?_; rintro e w1 ⟨rfl, hb1⟩)
        go_ret
        exact ⟨ret_int HE.out, below_step HB.out hb1⟩
      · have HE : Hid (fI (fun j => decide (f j = a)) (j + 1) (m - (j + 1)) = r) := Lib.hid (by have := HK.out; rw [E.out, decide_eq_false e] at this; simpa using this)
        rw [decide_eq_false e] at CA
        have CA := Lib.hid CA
        clear e E
        go_wp2_with (go_at_call 136; refine CA.out.mono ?_; rintro e w1 ⟨rfl, hb1⟩; have HB1 := Lib.hid (below_step HB.out hb1); clear hb1)
        go_roundw
        case rel => exact ⟨j + 1, by omega, by go_num, HE, HB1.out⟩
        case measure => simp [intOf]; omega
    · obtain rfl : j = m := by omega
      have HE : Hid (-1 = r) := Lib.hid (by have := HK.out; rw [fI_end] at this; exact this)
      go_wp2
      go_ret
      exact ⟨ret_int HE.out, HB.out⟩
theorem containsf_str (N X : Nat) (a : ByteArray) (o : Option Addr) (m cap : Nat) (f : Nat → ByteArray) (w : World) (h : Ss w o m f) (hc : Cps w N X a) (hm : m ≤ 9223372036854775807) :
    Calls Tryz.prog 135 #[.slice o m cap, .func (.func 136) #[] #[pt N, pt X]] w fun e w' => e = .returned (.bool (anyB (fun j => decide (f j = a)) m)) ∧ Below w.heap.size w w' := by
  have H := Lib.hid (indexf_str N X a o m cap f w h hc hm)
  unfold anyB
  clear h hc
  obtain ⟨r, hr⟩ : ∃ r, fI (fun j => decide (f j = a)) 0 m = r := ⟨_, rfl⟩
  rw [hr] at H ⊢
  clear hr
  go_enter Tryz.func135, Tryz.ntmps135
  go_wp2_with (go_at_call 142; refine H.out.mono ?_; rintro e w' ⟨rfl, hb⟩)
  go_ret
  exact ⟨rfl, hb⟩
/-- is each text from k on, m of them, a name, and unlike those ahead of it? -/
def unlikeS (f : Nat → ByteArray) : Nat → Nat → Bool
  | _, 0 => true
  | k, m + 1 => (isName (f k) && !anyB (fun j => decide (f j = f k)) k) && unlikeS f (k + 1) m
theorem unlikeS_at (f : Nat → ByteArray) (k n : Nat) (h : k < n) : unlikeS f k (n - k) = ((isName (f k) && !anyB (fun j => decide (f j = f k)) k) && unlikeS f (k + 1) (n - (k + 1))) := by
  have : n - k = n - (k + 1) + 1 := by omega
  rw [this, unlikeS]
theorem unlikeS_end (f : Nat → ByteArray) (n : Nat) : unlikeS f n (n - n) = true := by rw [Nat.sub_self, unlikeS]

set_option maxRecDepth 100000 in
set_option maxHeartbeats 4000000 in
theorem unlike_str {A : Nat → Nat × Nat} (o : Option Addr) (m cap : Nat) (f : Nat → ByteArray) (w : World) (hG : Gl A w) (h : Ss w o m f) (hf : ∀ k, (f k).size ≤ 9223372036854775807) (hm : m ≤ 9223372036854775807) (hcap : m ≤ cap) :
    Calls Tryz.prog 124 #[.slice o m cap, fnIdent, fnIsName] w fun e w' => e = .returned (.bool (unlikeS f 0 m)) ∧ Below w.heap.size w w' := by
  have H := Lib.hid h
  have HG := Lib.hid hG
  have HF := Lib.hid hf
  clear h hG hf
  obtain ⟨r, hr⟩ : ∃ r, unlikeS f 0 m = r := ⟨_, rfl⟩
  rw [hr]
  have HR := Lib.hid hr
  clear hr
  have HB0 := Lib.hid (((Below.refl w.heap.size w).alloc (Nat.le_refl _) (.cells #[fnIdent] 125)))
  have hfn : (w.alloc (.cells #[fnIdent] 125)).cell? ⟨w.heap.size, 0, none⟩ = some fnIdent := by simp
  have HFN := Lib.hid hfn
  clear hfn
  go_enter Tryz.func124, Tryz.ntmps124
  go_wp2
  go_loopw [11] (fun i wr => ∃ j : Nat, j ≤ m ∧ i = .int .i64 j ∧ Hid (unlikeS f j (m - j) = r) ∧ Below w.heap.size w wr ∧ w.heap.size < wr.heap.size ∧ wr.cell? ⟨w.heap.size, 0, none⟩ = some fnIdent) (fun i _ => m - (intOf i).toNat)
  case atStart => exact ⟨0, Nat.zero_le _, rfl, HR, HB0.out, by simp, HFN.out⟩
  case round =>
    clear HFN HB0
    obtain ⟨j, hj, rfl, HK, hB, hz, hfn⟩ := hrel
    have HB := Lib.hid hB
    have HFN := Lib.hid hfn
    clear hB hfn
    by_cases hlt : j < m
    · have HV := Lib.hid (H.out.below HB.out)
      obtain ⟨b, off, rfl, hb, c0⟩ := HV.out j hlt
      have E := Lib.hid (unlikeS_at f j m hlt)
      have hfit := HF.out j
      obtain ⟨va, hv⟩ : ∃ v, f j = v := ⟨_, rfl⟩
      rw [hv] at c0 E hfit
      clear hv
      obtain ⟨w1, hw1⟩ : ∃ w1, w1 = wr.alloc (.cells #[.string va] 9) := ⟨_, rfl⟩
      have hb1 : Below wr.heap.size wr w1 := by rw [hw1]; exact (Below.refl _ _).alloc (Nat.le_refl _) _
      have hcp : Cps w1 w.heap.size wr.heap.size va := by
        refine ⟨Nat.lt_of_lt_of_le hz hb1.size, by rw [hw1]; simp, by rw [hb1.cell (p := ⟨w.heap.size, 0, none⟩) hz]; exact HFN.out, ?_⟩
        rw [hw1]; simp
      have V1 := name_any va w1 ((HG.out.below HB.out).below hb1) hfit
      have VC := fun w2 (hb2 : Below w1.heap.size w1 w2) => containsf_str w.heap.size wr.heap.size va (some ⟨b, off, none⟩) j cap f w2 (((HV.out.below hb1).below hb2).less (by omega)) (hcp.below hb2) (by omega)
      have hB1 := below_step HB.out hb1
      have hz1 := hb1.size
      have hcell1 := (hcp.below (Below.refl _ _)).f
      rw [hw1] at V1 VC hB1 hz1 hcell1
      have HB1 := Lib.hid hB1
      have HCE := Lib.hid hcell1
      clear hcp hb1 hw1 hB1 w1 hcell1 hfit
      cases ho : isName va
      · have HE : Hid (false = r) := Lib.hid (by have := HK.out; rw [E.out, ho] at this; simpa using this)
        rw [ho] at V1
        have V1 := Lib.hid V1
        clear ho E VC
        go_wp2_with (go_at_call 90; refine V1.out.mono ?_; rintro e w2 ⟨rfl, hb2⟩)
        go_ret
        exact ⟨ret_bool HE.out, below_step HB1.out hb2⟩
      · rw [ho] at V1
        have V1 := Lib.hid V1
        cases ha : anyB (fun i => decide (f i = va)) j
        · have HE : Hid (unlikeS f (j + 1) (m - (j + 1)) = r) := Lib.hid (by have := HK.out; rw [E.out, ho, ha] at this; simpa using this)
          rw [ha] at VC
          have VC := Lib.hid VC
          clear ho ha E
          go_wp2_with (first | (go_at_call 90; refine V1.out.mono ?_; rintro e w2 ⟨rfl, hb2⟩; obtain ⟨hcc, _⟩ := bcell hb2; have HB2 := Lib.hid hb2; clear hb2) | (go_at_call 135; refine (VC.out _ HB2.out).mono ?_; rintro e w3 ⟨rfl, hb3⟩; have HB3 := Lib.hid hb3; clear hb3))
          go_roundw
          case rel => exact ⟨j + 1, by omega, by go_num, HE, below_step (below_step HB1.out HB2.out) HB3.out, by have := HB2.out.size; have := HB3.out.size; omega, by rw [HB3.out.cell (p := ⟨w.heap.size, 0, none⟩) (by have := HB2.out.size; simp only; omega), HB2.out.cell (p := ⟨w.heap.size, 0, none⟩) (by simp only; omega)]; exact HCE.out⟩
          case measure => simp [intOf]; omega
        · have HE : Hid (false = r) := Lib.hid (by have := HK.out; rw [E.out, ho, ha] at this; simpa using this)
          rw [ha] at VC
          have VC := Lib.hid VC
          clear ho ha E
          go_wp2_with (first | (go_at_call 90; refine V1.out.mono ?_; rintro e w2 ⟨rfl, hb2⟩; obtain ⟨hcc, _⟩ := bcell hb2; have HB2 := Lib.hid hb2; clear hb2) | (go_at_call 135; refine (VC.out _ HB2.out).mono ?_; rintro e w3 ⟨rfl, hb3⟩; have HB3 := Lib.hid hb3; clear hb3))
          go_ret
          exact ⟨ret_bool HE.out, below_step (below_step HB1.out HB2.out) HB3.out⟩
    · obtain rfl : j = m := by omega
      have HE : Hid (true = r) := Lib.hid (by have := HK.out; rw [unlikeS_end] at this; exact this)
      go_wp2
      go_ret
      exact ⟨ret_bool HE.out, HB.out⟩
end Go.Proofs.YtjakdbahopbggaaGreatDoor
end
