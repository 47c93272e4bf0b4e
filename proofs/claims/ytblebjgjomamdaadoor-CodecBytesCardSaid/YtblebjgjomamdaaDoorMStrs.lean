/- What model.unlike returns over texts (a Call's Back). Conditions: the tables as laid; lengths are lengths. -/
import Derived.Test.YtblebjgjomamdaaDoorMVars3
namespace Go.Proofs.YtblebjgjomamdaaDoor
open Go.RowKit Go.Ow

theorem ident_any (a : ByteArray) (w : World) : Calls Tryd.prog 71 #[.string a] w fun e w' => e = .returned (.string a) ∧ w = w' := by
  go_enter Tryd.func71, Tryd.ntmps71
  go_wp2
  go_ret
  exact ⟨rfl, rfl⟩
theorem ident_quiet (a : ByteArray) (w : World) (n : Nat) : Calls Tryd.prog 71 #[.string a] (w.drewN n) fun e w'' => e = .returned (.string a) ∧ ∃ m, w'' = w.drewN m :=
  (ident_any a (w.drewN n)).mono fun _ _ ⟨he, hw⟩ => ⟨he, n, hw.symm⟩
abbrev fnIdent : Value := .func (.func 71) #[] #[]
abbrev fnIsName : Value := .func (.func 32) #[] #[]
/-- the two captured variables of unlike's closure over texts -/
structure Cps (w : World) (N X : Nat) (a : ByteArray) : Prop where
  ln : N < w.heap.size
  lx : X < w.heap.size
  f : w.cell? ⟨N, 0, none⟩ = some fnIdent
  c0 : w.cell? ⟨X, 0, none⟩ = some (.string a)
theorem Cps.below {w wr : World} {N X : Nat} {a : ByteArray} (h : Cps w N X a) (hb : Below w.heap.size w wr) : Cps wr N X a :=
  ⟨Nat.lt_of_lt_of_le h.ln hb.size, Nat.lt_of_lt_of_le h.lx hb.size, by rw [hb.cell (p := ⟨N, 0, none⟩) h.ln]; exact h.f, by rw [hb.cell (p := ⟨X, 0, none⟩) h.lx]; exact h.c0⟩
theorem Ss.less {w : World} {o : Option Addr} {n m : Nat} {f : Nat → ByteArray} (h : Ss w o n f) (hm : m ≤ n) : Ss w o m f := fun k hk => h k (by omega)

theorem alikes_any (N X : Nat) (a a' : ByteArray) (w : World) (h : Cps w N X a') :
    Calls Tryd.prog 93 #[.string a, pt N, pt X] w fun e w' => e = .returned (.bool (decide (a = a'))) ∧ Below w.heap.size w w' := by
  obtain ⟨_, _, hf, h0⟩ := h
  by_cases e : a = a'
  · subst e
    rw [decide_eq_true rfl]
    go_enter Tryd.func93, Tryd.ntmps93
    go_wp2
    go_quiet ((go_at_call 71; exact ident_quiet _ _ _))
    go_wp2
    go_ret
    exact ⟨rfl, Below.drewN _ _⟩
  · rw [decide_eq_false e]
    have n1 := toList_ne e
    have n2 := toList_beq e
    clear e
    go_enter Tryd.func93, Tryd.ntmps93
    go_wp2
    go_quiet ((go_at_call 71; exact ident_quiet _ _ _))
    go_wp2
    go_ret
    exact ⟨rfl, Below.drewN _ _⟩
theorem indexf_str (N X : Nat) (a : ByteArray) (o : Option Addr) (m cap : Nat) (f : Nat → ByteArray) (w : World) (h : Ss w o m f) (hc : Cps w N X a) (hm : m ≤ 9223372036854775807) :
    Calls Tryd.prog 104 #[.slice o m cap, .func (.func 93) #[] #[pt N, pt X]] w fun e w' => e = .returned (.int .i64 (fI (fun j => decide (f j = a)) 0 m)) ∧ Below w.heap.size w w' := by
  have H := Lib.hid h
  have HC := Lib.hid hc
  clear h hc
  obtain ⟨r, hr⟩ : ∃ r, fI (fun j => decide (f j = a)) 0 m = r := ⟨_, rfl⟩
  rw [hr]
  have HR := Lib.hid hr
  clear hr
  go_enter Tryd.func104, Tryd.ntmps104
  go_wp2
  go_loopw [8] (fun i wr => ∃ j : Nat, j ≤ m ∧ i = .int .i64 j ∧ Hid (fI (fun j => decide (f j = a)) j (m - j) = r) ∧ Below w.heap.size w wr) (fun i _ => m - (intOf i).toNat)
  case atStart => exact ⟨0, Nat.zero_le _, rfl, HR, Below.refl _ _⟩
  case round =>
    obtain ⟨j, hj, rfl, HK, hB⟩ := hrel
    have HB := Lib.hid hB
    clear hB
    by_cases hlt : j < m
    · obtain ⟨b, off, rfl, hb, c0⟩ := (H.out.below HB.out) j hlt
      have E := Lib.hid (fI_at (fun j => decide (f j = a)) j m hlt)
      have hca := fun a1 => alikes_any N X a1 a wr (HC.out.below HB.out)
      obtain ⟨v, hv⟩ : ∃ v, f j = v := ⟨_, rfl⟩
      rw [hv] at c0 E
      clear hv
      have CA := hca v
      clear hca
      by_cases e : v = a
      · have HE : Hid ((j : Int) = r) := Lib.hid (by have := HK.out; rw [E.out, decide_eq_true e] at this; simpa using this)
        rw [decide_eq_true e] at CA
        have CA := Lib.hid CA
        clear e E
        go_wp2_with (go_at_call 93; refine CA.out.mono ?_; rintro e w1 ⟨rfl, hb1⟩)
        go_ret
        exact ⟨ret_int HE.out, below_step HB.out hb1⟩
      · have HE : Hid (fI (fun j => decide (f j = a)) (j + 1) (m - (j + 1)) = r) := Lib.hid (by have := HK.out; rw [E.out, decide_eq_false e] at this; simpa using this)
        rw [decide_eq_false e] at CA
        have CA := Lib.hid CA
        clear e E
        go_wp2_with (go_at_call 93; refine CA.out.mono ?_; rintro e w1 ⟨rfl, hb1⟩; have HB1 := Lib.hid (below_step HB.out hb1); clear hb1)
        go_roundw
        case rel => exact ⟨j + 1, by omega, by go_num, HE, HB1.out⟩
        case measure => simp [intOf]; omega
    · obtain rfl : j = m := by omega
      have HE : Hid (-1 = r) := Lib.hid (by have := HK.out; rw [fI_end] at this; exact this)
      go_wp2
      go_ret
      exact ⟨ret_int HE.out, HB.out⟩
theorem containsf_str (N X : Nat) (a : ByteArray) (o : Option Addr) (m cap : Nat) (f : Nat → ByteArray) (w : World) (h : Ss w o m f) (hc : Cps w N X a) (hm : m ≤ 9223372036854775807) :
    Calls Tryd.prog 92 #[.slice o m cap, .func (.func 93) #[] #[pt N, pt X]] w fun e w' => e = .returned (.bool (anyB (fun j => decide (f j = a)) m)) ∧ Below w.heap.size w w' := by
  have H := Lib.hid (indexf_str N X a o m cap f w h hc hm)
  unfold anyB
  clear h hc
  obtain ⟨r, hr⟩ : ∃ r, fI (fun j => decide (f j = a)) 0 m = r := ⟨_, rfl⟩
  rw [hr] at H ⊢
  clear hr
  go_enter Tryd.func92, Tryd.ntmps92
  go_wp2_with (go_at_call 104; refine H.out.mono ?_; rintro e w' ⟨rfl, hb⟩)
  go_ret
  exact ⟨rfl, hb⟩
/-- is each text from k on, m of them, a name, and unlike those ahead of it? -/
def unlikeS (f : Nat → ByteArray) : Nat → Nat → Bool
  | _, 0 => true
  | k, m + 1 => (isName (f k) && !anyB (fun j => decide (f j = f k)) k) && unlikeS f (k + 1) m
theorem unlikeS_at (f : Nat → ByteArray) (k n : Nat) (h : k < n) : unlikeS f k (n - k) = ((isName (f k) && !anyB (fun j => decide (f j = f k)) k) && unlikeS f (k + 1) (n - (k + 1))) := by
  have : n - k = n - (k + 1) + 1 := by omega
  rw [this, unlikeS]
theorem unlikeS_end (f : Nat → ByteArray) (n : Nat) : unlikeS f n (n - n) = true := by rw [Nat.sub_self, unlikeS]

set_option maxRecDepth 100000 in
set_option maxHeartbeats 4000000 in
theorem unlike_str {A : Nat → Nat × Nat} (o : Option Addr) (m cap : Nat) (f : Nat → ByteArray) (w : World) (hG : Gl A w) (h : Ss w o m f) (hf : ∀ k, (f k).size ≤ 9223372036854775807) (hm : m ≤ 9223372036854775807) (hcap : m ≤ cap) :
    Calls Tryd.prog 70 #[.slice o m cap, fnIdent, fnIsName] w fun e w' => e = .returned (.bool (unlikeS f 0 m)) ∧ Below w.heap.size w w' := by
  have H := Lib.hid h
  have HG := Lib.hid hG
  have HF := Lib.hid hf
  clear h hG hf
  obtain ⟨r, hr⟩ : ∃ r, unlikeS f 0 m = r := ⟨_, rfl⟩
  rw [hr]
  have HR := Lib.hid hr
  clear hr
  have HB0 := Lib.hid (((Below.refl w.heap.size w).alloc (Nat.le_refl _) (.cells #[fnIdent] 58)))
  have hfn : (w.alloc (.cells #[fnIdent] 58)).cell? ⟨w.heap.size, 0, none⟩ = some fnIdent := by simp
  have HFN := Lib.hid hfn
  clear hfn
  go_enter Tryd.func70, Tryd.ntmps70
  go_wp2
  go_loopw [11] (fun i wr => ∃ j : Nat, j ≤ m ∧ i = .int .i64 j ∧ Hid (unlikeS f j (m - j) = r) ∧ Below w.heap.size w wr ∧ w.heap.size < wr.heap.size ∧ wr.cell? ⟨w.heap.size, 0, none⟩ = some fnIdent) (fun i _ => m - (intOf i).toNat)
  case atStart => exact ⟨0, Nat.zero_le _, rfl, HR, HB0.out, by simp, HFN.out⟩
  case round =>
    clear HFN HB0
    obtain ⟨j, hj, rfl, HK, hB, hz, hfn⟩ := hrel
    have HB := Lib.hid hB
    have HFN := Lib.hid hfn
    clear hB hfn
    by_cases hlt : j < m
    · have HV := Lib.hid (H.out.below HB.out)
      obtain ⟨b, off, rfl, hb, c0⟩ := HV.out j hlt
      have E := Lib.hid (unlikeS_at f j m hlt)
      have hfit := HF.out j
      obtain ⟨va, hv⟩ : ∃ v, f j = v := ⟨_, rfl⟩
      rw [hv] at c0 E hfit
      clear hv
      obtain ⟨w1, hw1⟩ : ∃ w1, w1 = wr.alloc (.cells #[.string va] 9) := ⟨_, rfl⟩
      have hb1 : Below wr.heap.size wr w1 := by rw [hw1]; exact (Below.refl _ _).alloc (Nat.le_refl _) _
      have hcp : Cps w1 w.heap.size wr.heap.size va := by
        refine ⟨Nat.lt_of_lt_of_le hz hb1.size, by rw [hw1]; simp, by rw [hb1.cell (p := ⟨w.heap.size, 0, none⟩) hz]; exact HFN.out, ?_⟩
        rw [hw1]; simp
      have V1 := name_any va w1 ((HG.out.below HB.out).below hb1) hfit
      have VC := fun w2 (hb2 : Below w1.heap.size w1 w2) => containsf_str w.heap.size wr.heap.size va (some ⟨b, off, none⟩) j cap f w2 (((HV.out.below hb1).below hb2).less (by omega)) (hcp.below hb2) (by omega)
      have hB1 := below_step HB.out hb1
      have hz1 := hb1.size
      have hcell1 := (hcp.below (Below.refl _ _)).f
      rw [hw1] at V1 VC hB1 hz1 hcell1
      have HB1 := Lib.hid hB1
      have HCE := Lib.hid hcell1
      clear hcp hb1 hw1 hB1 w1 hcell1 hfit
      cases ho : isName va
      · have HE : Hid (false = r) := Lib.hid (by have := HK.out; rw [E.out, ho] at this; simpa using this)
        rw [ho] at V1
        have V1 := Lib.hid V1
        clear ho E VC
        go_wp2_with (go_at_call 32; refine V1.out.mono ?_; rintro e w2 ⟨rfl, hb2⟩)
        go_ret
        exact ⟨ret_bool HE.out, below_step HB1.out hb2⟩
      · rw [ho] at V1
        have V1 := Lib.hid V1
        cases ha : anyB (fun i => decide (f i = va)) j
        · have HE : Hid (unlikeS f (j + 1) (m - (j + 1)) = r) := Lib.hid (by have := HK.out; rw [E.out, ho, ha] at this; simpa using this)
          rw [ha] at VC
          have VC := Lib.hid VC
          clear ho ha E
          go_wp2_with (first | (go_at_call 32; refine V1.out.mono ?_; rintro e w2 ⟨rfl, hb2⟩; obtain ⟨hcc, _⟩ := bcell hb2; have HB2 := Lib.hid hb2; clear hb2) | (go_at_call 92; refine (VC.out _ HB2.out).mono ?_; rintro e w3 ⟨rfl, hb3⟩; have HB3 := Lib.hid hb3; clear hb3))
          go_roundw
          case rel => exact ⟨j + 1, by omega, by go_num, HE, below_step (below_step HB1.out HB2.out) HB3.out, by have := HB2.out.size; have := HB3.out.size; omega, by rw [HB3.out.cell (p := ⟨w.heap.size, 0, none⟩) (by have := HB2.out.size; simp only; omega), HB2.out.cell (p := ⟨w.heap.size, 0, none⟩) (by simp only; omega)]; exact HCE.out⟩
          case measure => simp [intOf]; omega
        · have HE : Hid (false = r) := Lib.hid (by have := HK.out; rw [E.out, ho, ha] at this; simpa using this)
          rw [ha] at VC
          have VC := Lib.hid VC
          clear ho ha E
          go_wp2_with (first | (go_at_call 32; refine V1.out.mono ?_; rintro e w2 ⟨rfl, hb2⟩; obtain ⟨hcc, _⟩ := bcell hb2; have HB2 := Lib.hid hb2; clear hb2) | (go_at_call 92; refine (VC.out _ HB2.out).mono ?_; rintro e w3 ⟨rfl, hb3⟩; have HB3 := Lib.hid hb3; clear hb3))
          go_ret
          exact ⟨ret_bool HE.out, below_step (below_step HB1.out HB2.out) HB3.out⟩
    · obtain rfl : j = m := by omega
      have HE : Hid (true = r) := Lib.hid (by have := HK.out; rw [unlikeS_end] at this; exact this)
      go_wp2
      go_ret
      exact ⟨ret_bool HE.out, HB.out⟩
end Go.Proofs.YtblebjgjomamdaaDoor
