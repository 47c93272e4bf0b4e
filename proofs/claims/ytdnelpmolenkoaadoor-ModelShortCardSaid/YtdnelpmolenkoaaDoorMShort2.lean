/- callboardlaw14.ModelShort returns true: the walk. Conditions: the tables as laid; lengths are lengths. -/
import Derived.Test.YtdnelpmolenkoaaDoorMShort
import Derived.Test.YtdnelpmolenkoaaDoorMawake
import Derived.Test.YtdnelpmolenkoaaDoorMShReg
import Derived.Deep.DeepCutAuto
import Derived.IntWalk
namespace Go.Proofs.YtdnelpmolenkoaaDoor
open Go.RowKit Go.Ow Go.Inv

theorem b8n {a b : Nat} (h : ¬ a = b) : ((a : Int) == b) = false := by simp; omega
theorem str_ne {t u : ByteArray} {l : List UInt8} (h : ¬ t = u) (hl : u.data.toList = l) : ¬ t.toList = l := by
  rw [← hl, ← ByteArray.toList_eq]
  exact toList_ne h
theorem extract_take (s : ByteArray) (j : Nat) : (s.extract 0 j).data.toList = s.data.toList.take j := by
  rw [ByteArray.data_extract]
  simp
set_option maxRecDepth 100000 in
set_option maxHeartbeats 16000000 in
theorem short_run {A : Nat → Nat × Nat} (s : ByteArray) (n : Int) (o : Option Addr) (m c : Nat) (f : Nat → Va) (w : World) (hG : Gl A w) (hs : s.size ≤ 9223372036854775807)
    (h : Vr w o m f) (hf : ∀ k, (f k).fit) (hm : m ≤ 9223372036854775807) (hc : m ≤ c) :
    Calls Tryd.prog 4 #[.string s, .int .i64 n, .slice o m c] w fun r w' => r = .returned (.bool true) ∧ Below w.heap.size w w' := by
  have AW := Lib.hid (mawake_true w hG)
  by_cases a1 : 1000 < s.size
  · clear h
    go_enter Tryd.func4, Tryd.ntmps4
    go_wp2_with (go_at_call 10; refine AW.out.mono ?_; rintro e w2 ⟨rfl, hb2⟩)
    go_ret
    exact ⟨rfl, hb2⟩
  by_cases a2 : 50 < m
  · clear h
    have a1' : s.size ≤ 1000 := by omega
    go_enter Tryd.func4, Tryd.ntmps4
    go_wp2_with (go_at_call 10; refine AW.out.mono ?_; rintro e w2 ⟨rfl, hb2⟩)
    go_ret
    exact ⟨rfl, hb2⟩
  have a1' : s.size ≤ 1000 := by omega
  have a2' : m ≤ 50 := by omega
  have NM := Lib.hid (fun (t : ByteArray) (ht : t.size ≤ 9223372036854775807) (W : World) (hb : Below w.heap.size w W) => name_any t W (hG.below hb) ht)
  have VS := Lib.hid (fun (W : World) (hb : Below w.heap.size w W) => vars_any o m c f W (hG.below hb) (h.below hb) hf hm hc)
  have VG := Lib.hid (fun (o' : Option Addr) (m' c' : Nat) (f' : Nat → Va) (W : World) (hb : Below w.heap.size w W) => vars_any o' m' c' f' W (hG.below hb))
  have HV := Lib.hid h
  have HF := Lib.hid hf
  clear hG h hf
  clear a1 a2
  go_enter Tryd.func4, Tryd.ntmps4
  obtain ⟨bn, hbn⟩ : ∃ bn, isName s = bn := ⟨_, rfl⟩
  have HI := Lib.hid hbn
  have N1 := fun (W : World) (hb : Below w.heap.size w W) => NM.out s hs W hb
  rw [hbn] at N1
  have N1 := Lib.hid N1
  clear hbn
  go_upto_if 23 with (first | (go_at_call 10; refine AW.out.mono ?_; rintro e w2 ⟨rfl, hb2⟩; have HB2 := Lib.hid hb2; clear hb2) | (go_at_call 13; refine (N1.out _ HB2.out).mono ?_; rintro e w3 ⟨rfl, hb3⟩; have HB3 := Lib.hid (below_step HB2.out hb3); clear hb3))
  go_cut [6, 7] (fun _ _ W => Below w.heap.size w W)
  case first =>
    cases bn
    · go_wp2_with fail
      go_meet
      exact HB3.out
    · have hz := isName_size HI.out
      have e1 := bytes_ne (t := s) (by omega)
      have e2 := bytes_emp (t := s) (by omega)
      obtain ⟨j, j1, j2, j3⟩ := less_at n s.size (by omega)
      have ht := extract_take s (1 + j)
      have hB := isName_begin HI.out (1 + j) (by omega) (by omega) ht
      go_upto_region 7 with fail
      have hsz : (s.extract 0 (1 + j)).size ≤ 9223372036854775807 := by rw [ByteArray.size_extract]; omega
      generalize s.extract 0 (1 + j) = t at *
      clear ht e1 e2 j2 j3
      have N2 := NM.out t hsz w3 HB3.out
      rw [hB] at N2
      clear hB
      by_cases c1 : t = ⟨#[121, 101, 115]⟩
      · subst c1
        have N2 : Hid _ := Lib.hid (show Calls Tryd.prog 13 #[.string ⟨#[121, 101, 115]⟩] w3 fun e w' => e = .returned (.bool false) ∧ Below w3.heap.size w3 w' from N2)
        go_wp2_with (go_at_call 13; refine N2.out.mono ?_; rintro e w4 ⟨rfl, hb4⟩)
        go_meet
        exact below_step HB3.out hb4
      by_cases c2 : t = ⟨#[110, 111]⟩
      · subst c2
        have N2 : Hid _ := Lib.hid (show Calls Tryd.prog 13 #[.string ⟨#[110, 111]⟩] w3 fun e w' => e = .returned (.bool false) ∧ Below w3.heap.size w3 w' from N2)
        go_wp2_with (go_at_call 13; refine N2.out.mono ?_; rintro e w4 ⟨rfl, hb4⟩)
        go_meet
        exact below_step HB3.out hb4
      by_cases c3 : t = ⟨#[108, 101, 110]⟩
      · subst c3
        have N2 : Hid _ := Lib.hid (show Calls Tryd.prog 13 #[.string ⟨#[108, 101, 110]⟩] w3 fun e w' => e = .returned (.bool false) ∧ Below w3.heap.size w3 w' from N2)
        go_wp2_with (go_at_call 13; refine N2.out.mono ?_; rintro e w4 ⟨rfl, hb4⟩)
        go_meet
        exact below_step HB3.out hb4
      have hr : resB t = false := by unfold resB; simp [c1, c2, c3]
      rw [hr] at N2
      have N2 := Lib.hid N2
      have x1 : ¬ t.toList = [121, 101, 115] := str_ne c1 rfl
      have x2 : (t.toList == [121, 101, 115]) = false := by simp [x1]
      have x3 : ¬ t.toList = [110, 111] := str_ne c2 rfl
      have x4 : (t.toList == [110, 111]) = false := by simp [x3]
      have x5 : ¬ t.toList = [108, 101, 110] := str_ne c3 rfl
      have x6 : (t.toList == [108, 101, 110]) = false := by simp [x5]
      clear hr c1 c2 c3
      go_wp2_with (go_at_call 13; refine N2.out.mono ?_; rintro e w4 ⟨rfl, hb4⟩)
      go_meet
      exact below_step HB3.out hb4
  case rest =>
    have HB4 := Lib.hid hcut
    clear hcut
    have V1 := VS.out wc HB4.out
    by_cases m0 : m = 0
    · subst m0
      obtain ⟨v, hv⟩ : ∃ v, varsE 0 f = v := ⟨_, rfl⟩
      rw [hv] at V1
      have V1 := Lib.hid V1
      clear hv
      by_cases v0 : v = 0
      · subst v0
        go_wp2_with (go_at_call 15; refine V1.out.mono ?_; rintro e w5 ⟨rfl, hb5⟩)
        go_ret
        exact ⟨rfl, below_step HB4.out hb5⟩
      · have v1 : ((v : Int) == 0) = false := b8n v0
        have v2 : ((v : Int) != 0) = true := by rw [bne, v1]; rfl
        go_wp2_with (go_at_call 15; refine V1.out.mono ?_; rintro e w5 ⟨rfl, hb5⟩)
        go_ret
        exact ⟨rfl, below_step HB4.out hb5⟩
    · have m1 : ((m : Int) == 0) = false := b8n m0
      obtain ⟨v, hv⟩ : ∃ v, varsE m f = v := ⟨_, rfl⟩
      rw [hv] at V1
      have V1 := Lib.hid V1
      have HVE := Lib.hid hv
      clear hv
      by_cases v0 : v = 0
      · subst v0
        obtain ⟨k, k1, k2, k3⟩ := less_at n m (by omega)
        go_upto_region 12 with (go_at_call 15; refine V1.out.mono ?_; rintro e w5 ⟨rfl, hb5⟩; have HB5 := Lib.hid (below_step HB4.out hb5); clear hb5)
        obtain ⟨b, off, ho, _⟩ := HV.out 0 (by omega)
        subst ho
        clear k2 k3 m1 a2' a1' hs hm
        have n1 : ¬ c < k := by omega
        have n2 : ¬ (m : Int) < (k : Int) + 1 := by omega
        have n3 : (0 : Int) ≤ (k : Int) + 1 := by omega
        have n4 : IntKind.i64.wrap ((k : Int) + 1) = (k : Int) + 1 := IntWalk.i64_in _ (by omega)
        have hm8 := (varsE_zero.1 HVE.out).1
        have HV5 := Lib.hid (HV.out.below HB5.out)
        obtain ⟨ab, hab⟩ : ∃ ab : Addr, ab = if c = k + 1 then ⟨b, off, none⟩ else ⟨b, off + (k + 1) * 4, none⟩ := ⟨_, rfl⟩
        replace hab := Lib.hid hab
        refine wp_region_asrt (by kernel_rfl) (fun W => Below w5.heap.size w5 W) (shF w5.heap.size b off m c k ab f) (fun _ => []) shNeed shAnc shKill 26 [some 64, some 65, some 66, some 67, some 68, some 69, some 70, some 71, some 72, some 73, some 74, some 75, some 76, some 77, some 78, some 79, some 80, some 81, some 82, some 83, some 84, some 85, some 86, some 87, some 88, some 6] rfl rfl (by kernel_rfl) (fun j d h => nomatch h) (Below.refl _ _).drew ⟨?_, ?_, ?_, ?_, ?_, ?_, ?_, ?_, ?_, ?_, ?_, ?_, ?_, ?_, ?_, ?_, ?_, ?_, ?_, ?_, ?_, ?_, ?_, ?_, ?_, ?_, trivial⟩ ?_
        · refine Step.mk (oi := _) rfl [] (fun cs b h => by cases h) (by kernel_rfl) (fun vs W hI hA => ?_)
          simp only [List.map]
          simp only [putR]
          refine SOp.val (v := .slice (some ⟨W.heap.size, 0, none⟩) 0 0) (w' := W.alloc (.cells #[] 43)) (by kernel_rfl) (by go_simp) ⟨hI.alloc hI.size _, ⟨W.heap.size, upd_self _ _ _, hI.size, heap_alloc_new _ _⟩, fun j vs' _ _ _ h => shF_mono ((Below.refl _ _).alloc (Nat.le_refl _) _) h⟩
        · refine Step.mk (oi := _) rfl [] (fun cs b h => by cases h) (by kernel_rfl) (fun vs W hI hA => ?_)
          simp only [List.map]
          simp only [putR]
          refine SOp.val (v := .slice (some ⟨b, off, none⟩) m c) (w' := W) (by kernel_rfl) (by go_simp) ⟨hI, upd_self _ _ _, fun _ _ _ _ _ h => h⟩
        · refine Step.mk (oi := _) rfl [] (fun cs b h => by cases h) (by kernel_rfl) (fun vs W hI hA => ?_)
          simp only [List.map]
          simp only [putR]
          refine SOp.val (v := .int .i64 k) (w' := W) (by kernel_rfl) (by go_simp) ⟨hI, upd_self _ _ _, fun _ _ _ _ _ h => h⟩
        · refine Step.mk (oi := _) rfl [(65, 1), (66, 2)] (fun cs b h => by cases h) (by kernel_rfl) (fun vs W hI hA => ?_)
          simp only [List.map]
          have h1 : vs 1 = .slice (some ⟨b, off, none⟩) m c := hA 1 (by decide)
          have h2 : vs 2 = .int .i64 k := hA 2 (by decide)
          rw [h1, h2]
          simp only [putR, Act.put, List.setIfInBounds_toArray, List.set_cons_zero, List.set_cons_succ]
          refine SOp.val (v := .slice (some ⟨b, off, none⟩) k c) (w' := W) (by kernel_rfl) (by go_simp) ⟨hI, upd_self _ _ _, fun _ _ _ _ _ h => h⟩
        · refine Step.mk (oi := _) rfl [(64, 0), (67, 3)] (fun cs b h => by cases h) (by kernel_rfl) (fun vs W hI hA => ?_)
          simp only [List.map]
          have h3 : vs 3 = .slice (some ⟨b, off, none⟩) k c := hA 3 (by decide)
          rw [h3]
          obtain ⟨g, hu, hg, hcur⟩ := hA 0 (by decide)
          have hown : W.ownsRow w5.heap.size 43 4 (vs 0) 0 [] := ⟨rfl, .inr ⟨g, 0, #[], hu, hg, hcur, Nat.le_refl _, Nat.zero_le _, rfl, rfl⟩⟩
          have hnw := vcs_news (HV5.out.below hI) 0 k (by omega)
          rw [Nat.zero_mul, Nat.add_zero] at hnw
          obtain ⟨v', W', hr, ho, hgr⟩ := app_vars W w5.heap.size (vs 0) 0 [] hown ⟨b, off, none⟩ k c (vcs f 0 k) (vcs_length _ _ _) hnw (vcs_one _ _ _) (by omega) hI.size
          rw [Nat.zero_add, List.nil_append] at ho
          simp only [putR, Act.put, List.setIfInBounds_toArray, List.set_cons_zero, List.set_cons_succ]
          refine SOp.val (v := v') (w' := W') (by kernel_rfl) (by simp [execOp, resolve, invoke, builtin, Act.eval, hr, Result.andThen]) ⟨hI.grown hgr hI.size (own_ge hown), (show W'.ownsRow _ _ 4 (upd vs 4 v' 4) _ _ by rw [upd_self]; exact ho), fun j vs' h1 h2 h3 h4 => ?_⟩
          exact shKeep 99 (i := 4) (by decide) j vs' h1 h2 h3 (fun _ e => by omega) h4
        · refine Step.mk (oi := _) rfl [] (fun cs b h => by cases h) (by kernel_rfl) (fun vs W hI hA => ?_)
          simp only [List.map]
          simp only [putR]
          refine SOp.val (v := .slice (some ⟨b, off, none⟩) m c) (w' := W) (by kernel_rfl) (by go_simp) ⟨hI, upd_self _ _ _, fun _ _ _ _ _ h => h⟩
        · refine Step.mk (oi := _) rfl [] (fun cs b h => by cases h) (by kernel_rfl) (fun vs W hI hA => ?_)
          simp only [List.map]
          simp only [putR]
          refine SOp.val (v := .int .i64 k) (w' := W) (by kernel_rfl) (by go_simp) ⟨hI, upd_self _ _ _, fun _ _ _ _ _ h => h⟩
        · refine Step.mk (oi := _) rfl [(70, 6)] (fun cs b h => by cases h) (by kernel_rfl) (fun vs W hI hA => ?_)
          simp only [List.map]
          have h6 : vs 6 = .int .i64 k := hA 6 (by decide)
          rw [h6]
          simp only [putR, Act.put, List.setIfInBounds_toArray, List.set_cons_zero, List.set_cons_succ]
          refine SOp.val (v := .int .i64 ((k : Int) + 1)) (w' := W) (by kernel_rfl) (by go_simp) ⟨hI, upd_self _ _ _, fun _ _ _ _ _ h => h⟩
        · refine Step.mk (oi := _) rfl [(69, 5), (71, 7)] (fun cs b h => by cases h) (by kernel_rfl) (fun vs W hI hA => ?_)
          simp only [List.map]
          have h5 : vs 5 = .slice (some ⟨b, off, none⟩) m c := hA 5 (by decide)
          have h7 : vs 7 = .int .i64 ((k : Int) + 1) := hA 7 (by decide)
          rw [h5, h7]
          simp only [putR, Act.put, List.setIfInBounds_toArray, List.set_cons_zero, List.set_cons_succ]
          have k4 : ((k : Int) + 1).toNat = k + 1 := by omega
          refine SOp.val (v := .slice (some ab) (m - (k + 1)) (c - (k + 1))) (w' := W) (by kernel_rfl) ?_ ⟨hI, upd_self _ _ _, fun _ _ _ _ _ h => h⟩
          by_cases hck : c = k + 1
          · have hab1 := hab.out
            rw [if_pos hck] at hab1
            subst hab1
            go_simp
          · have hab1 := hab.out
            rw [if_neg hck] at hab1
            subst hab1
            go_simp
        · refine Step.mk (oi := _) rfl [(68, 4), (72, 8)] (fun cs b h => by cases h) (by kernel_rfl) (fun vs W hI hA => ?_)
          simp only [List.map]
          have h8 : vs 8 = .slice (some ab) (m - (k + 1)) (c - (k + 1)) := hA 8 (by decide)
          rw [h8]
          have hown : W.ownsRow w5.heap.size 43 4 (vs 4) k (vcs f 0 k) := hA 4 (by decide)
          have hnw : ∀ j u, (vcs f (k + 1) (m - (k + 1)))[j]? = some u → W.cell? (ab.add j) = some u := by
            intro j u hj
            by_cases hck : c = k + 1
            · have : m - (k + 1) = 0 := by omega
              rw [this] at hj
              simp [vcs] at hj
            · have hab1 := hab.out
              rw [if_neg hck] at hab1
              rw [hab1]
              exact vcs_news (HV5.out.below hI) (k + 1) (m - (k + 1)) (by omega) j u hj
          obtain ⟨v', W', hr, ho, hgr⟩ := app_vars W w5.heap.size (vs 4) k _ hown ab (m - (k + 1)) (c - (k + 1)) (vcs f (k + 1) (m - (k + 1))) (vcs_length _ _ _) hnw (vcs_one _ _ _) (by omega) hI.size
          rw [vcs_less] at ho
          simp only [putR, Act.put, List.setIfInBounds_toArray, List.set_cons_zero, List.set_cons_succ]
          refine SOp.val (v := v') (w' := W') (by kernel_rfl) (by simp [execOp, resolve, invoke, builtin, Act.eval, hr, Result.andThen]) ⟨hI.grown hgr hI.size (own_ge hown), (show W'.ownsRow _ _ 4 (upd vs 9 v' 9) _ _ by rw [upd_self]; exact ho), fun j vs' h1 h2 h3 h4 => ?_⟩
          exact shKeep 99 (i := 9) (by decide) j vs' h1 h2 h3 (fun _ e => by omega) h4
        · refine Step.mk (oi := _) rfl [(73, 9)] (fun cs b h => by cases h) (by kernel_rfl) (fun vs W hI hA => ?_)
          simp only [List.map]
          have ho : W.ownsRow w5.heap.size 43 4 (vs 9) (k + (m - (k + 1))) (vcs (lessF f k) 0 (k + (m - (k + 1)))) := hA 9 (by decide)
          obtain ⟨o', c', hu, hc', hv⟩ := owns_vr ho
          have VC := VG.out o' (k + (m - (k + 1))) c' (lessF f k) W (below_step HB5.out hI) hv (by intro j; unfold lessF; split <;> exact HF.out _) (by omega) hc'
          rw [hu]
          simp only [putR, Act.put, List.setIfInBounds_toArray, List.set_cons_zero, List.set_cons_succ]
          refine SOp.enter (f := 15) (args := #[.slice o' (k + (m - (k + 1))) c']) (w' := W) (by kernel_rfl) (by go_simp) (VC.mono ?_)
          rintro e W' ⟨rfl, hb⟩
          exact ⟨_, rfl, below_step hI hb, (show upd vs 10 _ 10 = _ by rw [upd_self, varsE_less HVE.out k1]; rfl), fun j vs' _ _ _ h => shF_mono hb h⟩
        · refine Step.mk (oi := _) rfl [(74, 10)] (fun cs b h => by cases h) (by kernel_rfl) (fun vs W hI hA => ?_)
          simp only [List.map]
          have h10 : vs 10 = .int .i64 0 := hA 10 (by decide)
          rw [h10]
          simp only [putR, Act.put, List.setIfInBounds_toArray, List.set_cons_zero, List.set_cons_succ]
          refine SOp.val (v := .bool true) (w' := W) (by kernel_rfl) (by go_simp) ⟨hI, upd_self _ _ _, fun _ _ _ _ _ h => h⟩
        · refine Step.mk (oi := _) rfl [(75, 11)] (fun cs b h => by cases h) (by kernel_rfl) (fun vs W hI hA => ?_)
          simp only [List.map]
          have h11 : vs 11 = .bool true := hA 11 (by decide)
          rw [h11]
          simp only [putR, Act.put, List.setIfInBounds_toArray, List.set_cons_zero, List.set_cons_succ]
          refine SOp.val (v := .bool true) (w' := W) (by kernel_rfl) (by go_simp) ⟨hI, upd_self _ _ _, fun _ _ _ _ _ h => h⟩
        · refine Step.mk (oi := _) rfl [(76, 12)] (fun cs b h => by cases h) (by kernel_rfl) (fun vs W hI hA => ?_)
          simp only [List.map]
          have h12 : vs 12 = .bool true := hA 12 (by decide)
          rw [h12]
          simp only [putR, Act.put, List.setIfInBounds_toArray, List.set_cons_zero, List.set_cons_succ]
          refine SOp.val (v := .slice (some ⟨W.heap.size, 0, none⟩) 0 0) (w' := W.alloc (.cells #[] 43)) (by kernel_rfl) (by go_simp) ⟨hI.alloc hI.size _, ⟨W.heap.size, upd_self _ _ _, hI.size, heap_alloc_new _ _⟩, fun j vs' _ _ _ h => shF_mono ((Below.refl _ _).alloc (Nat.le_refl _) _) h⟩
        · refine Step.mk (oi := _) rfl [(76, 12)] (fun cs b h => by cases h) (by kernel_rfl) (fun vs W hI hA => ?_)
          simp only [List.map]
          have h12 : vs 12 = .bool true := hA 12 (by decide)
          rw [h12]
          simp only [putR, Act.put, List.setIfInBounds_toArray, List.set_cons_zero, List.set_cons_succ]
          refine SOp.val (v := .slice (some ⟨b, off, none⟩) m c) (w' := W) (by kernel_rfl) (by go_simp) ⟨hI, upd_self _ _ _, fun _ _ _ _ _ h => h⟩
        · refine Step.mk (oi := _) rfl [(77, 13), (78, 14), (76, 12)] (fun cs b h => by cases h) (by kernel_rfl) (fun vs W hI hA => ?_)
          simp only [List.map]
          have h14 : vs 14 = .slice (some ⟨b, off, none⟩) m c := hA 14 (by decide)
          have h12 : vs 12 = .bool true := hA 12 (by decide)
          rw [h14, h12]
          obtain ⟨g, hu, hg, hcur⟩ := hA 13 (by decide)
          have hown : W.ownsRow w5.heap.size 43 4 (vs 13) 0 [] := ⟨rfl, .inr ⟨g, 0, #[], hu, hg, hcur, Nat.le_refl _, Nat.zero_le _, rfl, rfl⟩⟩
          have hnw := vcs_news (HV5.out.below hI) 0 m (by omega)
          rw [Nat.zero_mul, Nat.add_zero] at hnw
          obtain ⟨v', W', hr, ho, hgr⟩ := app_vars W w5.heap.size (vs 13) 0 [] hown ⟨b, off, none⟩ m c (vcs f 0 m) (vcs_length _ _ _) hnw (vcs_one _ _ _) (by omega) hI.size
          rw [Nat.zero_add, List.nil_append] at ho
          simp only [putR, Act.put, List.setIfInBounds_toArray, List.set_cons_zero, List.set_cons_succ]
          refine SOp.val (v := v') (w' := W') (by kernel_rfl) (by simp [execOp, resolve, invoke, builtin, Act.eval, hr, Result.andThen]) ⟨hI.grown hgr hI.size (own_ge hown), (show W'.ownsRow _ _ 4 (upd vs 15 v' 15) _ _ by rw [upd_self]; exact ho), fun j vs' h1 h2 h3 h4 => ?_⟩
          by_cases e : j = 20
          · subst e
            obtain ⟨g2, a1, a2, a3⟩ := h4
            refine ⟨g2, a1, a2, ?_⟩
            rw [hgr.block g2 (Array.getElem?_eq_some_iff.1 a3).1 (fun e => ?_)]
            · exact a3
            · rw [hu] at e
              simp [Value.ownBlock] at e
              subst e
              rw [hcur] at a3
              simp at a3
          · exact shKeep 20 (i := 15) (by decide) j vs' h1 h2 h3 (fun _ => e) h4
        · refine Step.mk (oi := _) rfl [(76, 12)] (fun cs b h => by cases h) (by kernel_rfl) (fun vs W hI hA => ?_)
          simp only [List.map]
          have h12 : vs 12 = .bool true := hA 12 (by decide)
          rw [h12]
          simp only [putR, Act.put, List.setIfInBounds_toArray, List.set_cons_zero, List.set_cons_succ]
          refine SOp.val (v := .slice (some ⟨b, off, none⟩) m c) (w' := W) (by kernel_rfl) (by go_simp) ⟨hI, upd_self _ _ _, fun _ _ _ _ _ h => h⟩
        · refine Step.mk (oi := _) rfl [(76, 12)] (fun cs b h => by cases h) (by kernel_rfl) (fun vs W hI hA => ?_)
          simp only [List.map]
          have h12 : vs 12 = .bool true := hA 12 (by decide)
          rw [h12]
          simp only [putR, Act.put, List.setIfInBounds_toArray, List.set_cons_zero, List.set_cons_succ]
          refine SOp.val (v := .int .i64 k) (w' := W) (by kernel_rfl) (by go_simp) ⟨hI, upd_self _ _ _, fun _ _ _ _ _ h => h⟩
        · refine Step.mk (oi := _) rfl [(80, 16), (81, 17), (76, 12)] (fun cs b h => by cases h) (by kernel_rfl) (fun vs W hI hA => ?_)
          simp only [List.map]
          have h16 : vs 16 = .slice (some ⟨b, off, none⟩) m c := hA 16 (by decide)
          have h17 : vs 17 = .int .i64 k := hA 17 (by decide)
          have h12 : vs 12 = .bool true := hA 12 (by decide)
          rw [h16, h17, h12]
          simp only [putR, Act.put, List.setIfInBounds_toArray, List.set_cons_zero, List.set_cons_succ]
          refine SOp.val (v := .pointer (some ⟨b, off + k * 4, none⟩)) (w' := W) (by kernel_rfl) (by go_simp) ⟨hI, upd_self _ _ _, fun _ _ _ _ _ h => h⟩
        · refine Step.mk (oi := _) rfl [(82, 18), (76, 12)] (fun cs b h => by cases h) (by kernel_rfl) (fun vs W hI hA => ?_)
          simp only [List.map]
          have h18 : vs 18 = .pointer (some ⟨b, off + k * 4, none⟩) := hA 18 (by decide)
          have h12 : vs 12 = .bool true := hA 12 (by decide)
          rw [h18, h12]
          obtain ⟨b', off', e, hb, c0, c1, c2, c3⟩ := (HV5.out.below hI) k k1
          simp only [Option.some.injEq, Addr.mk.injEq, and_true] at e
          obtain ⟨rfl, rfl⟩ := e
          simp only [putR, Act.put, List.setIfInBounds_toArray, List.set_cons_zero, List.set_cons_succ]
          refine SOp.val (v := .agg #[.string (f k).nm, .int .u8 (f k).k, .int .i64 (f k).n, .string (f k).t]) (w' := W) (by kernel_rfl) (by go_simp) ⟨hI, upd_self _ _ _, fun _ _ _ _ _ h => h⟩
        · refine Step.mk (oi := _) rfl [(83, 19), (76, 12)] (fun cs b h => by cases h) (by kernel_rfl) (fun vs W hI hA => ?_)
          simp only [List.map]
          have h19 : vs 19 = .agg #[.string (f k).nm, .int .u8 (f k).k, .int .i64 (f k).n, .string (f k).t] := hA 19 (by decide)
          have h12 : vs 12 = .bool true := hA 12 (by decide)
          rw [h19, h12]
          simp only [putR, Act.put, List.setIfInBounds_toArray, List.set_cons_zero, List.set_cons_succ]
          refine SOp.val (v := .slice (some ⟨W.heap.size, 0, none⟩) 1 1) (w' := W.alloc (.cells #[.string (f k).nm, .int .u8 (f k).k, .int .i64 (f k).n, .string (f k).t] 43)) (by kernel_rfl) (by go_simp) ⟨hI.alloc hI.size _, ⟨W.heap.size, upd_self _ _ _, hI.size, heap_alloc_new _ _⟩, fun j vs' _ _ _ h => shF_mono ((Below.refl _ _).alloc (Nat.le_refl _) _) h⟩
        · refine Step.mk (oi := _) rfl [(79, 15), (84, 20), (76, 12)] (fun cs b h => by cases h) (by kernel_rfl) (fun vs W hI hA => ?_)
          simp only [List.map]
          have h12 : vs 12 = .bool true := hA 12 (by decide)
          rw [h12]
          have hown : W.ownsRow w5.heap.size 43 4 (vs 15) m (vcs f 0 m) := hA 15 (by decide)
          obtain ⟨g, hu, hg, hcur⟩ := hA 20 (by decide)
          have hnw : ∀ j u, (vcs f k 1)[j]? = some u → W.cell? ((Addr.mk g 0 none).add j) = some u := by
            intro j u hj
            rw [Addr.add_lit, cell_of_row W g _ _ 43 (0, 0) hcur, Nat.zero_add]
            simpa [vcs] using hj
          obtain ⟨v', W', hr, ho, hgr⟩ := app_vars W w5.heap.size (vs 15) m _ hown ⟨g, 0, none⟩ 1 1 (vcs f k 1) rfl hnw (vcs_one _ _ _) (by omega) hI.size
          rw [vcs_more] at ho
          rw [hu]
          simp only [putR, Act.put, List.setIfInBounds_toArray, List.set_cons_zero, List.set_cons_succ]
          refine SOp.val (v := v') (w' := W') (by kernel_rfl) (by simp [execOp, resolve, invoke, builtin, Act.eval, hr, Result.andThen]) ⟨hI.grown hgr hI.size (own_ge hown), (show W'.ownsRow _ _ 4 (upd vs 21 v' 21) _ _ by rw [upd_self]; exact ho), fun j vs' h1 h2 h3 h4 => ?_⟩
          exact shKeep 99 (i := 21) (by decide) j vs' h1 h2 h3 (fun _ e => by omega) h4
        · refine Step.mk (oi := _) rfl [(85, 21), (76, 12)] (fun cs b h => by cases h) (by kernel_rfl) (fun vs W hI hA => ?_)
          simp only [List.map]
          have h12 : vs 12 = .bool true := hA 12 (by decide)
          rw [h12]
          have ho : W.ownsRow w5.heap.size 43 4 (vs 21) (m + 1) (vcs (moreF f m k) 0 (m + 1)) := hA 21 (by decide)
          obtain ⟨o', c', hu, hc', hv⟩ := owns_vr ho
          have VC := VG.out o' (m + 1) c' (moreF f m k) W (below_step HB5.out hI) hv (by intro j; unfold moreF; split <;> exact HF.out _) (by omega) hc'
          rw [hu]
          simp only [putR, Act.put, List.setIfInBounds_toArray, List.set_cons_zero, List.set_cons_succ]
          refine SOp.enter (f := 15) (args := #[.slice o' (m + 1) c']) (w' := W) (by kernel_rfl) (by go_simp) (VC.mono ?_)
          rintro e W' ⟨rfl, hb⟩
          exact ⟨_, rfl, below_step hI hb, ⟨_, upd_self _ _ _, varsE_more k1⟩, fun j vs' _ _ _ h => shF_mono hb h⟩
        · refine Step.mk (oi := _) rfl [(86, 22), (76, 12)] (fun cs b h => by cases h) (by kernel_rfl) (fun vs W hI hA => ?_)
          simp only [List.map]
          have h12 : vs 12 = .bool true := hA 12 (by decide)
          rw [h12]
          obtain ⟨e, hu, he⟩ := hA 22 (by decide)
          have e1 : ((e : Int) == 0) = false := b8n he
          have e2 : ((e : Int) != 0) = true := by rw [bne, e1]; rfl
          rw [hu]
          simp only [putR, Act.put, List.setIfInBounds_toArray, List.set_cons_zero, List.set_cons_succ]
          refine SOp.val (v := .bool true) (w' := W) (by kernel_rfl) (by go_simp) ⟨hI, upd_self _ _ _, fun _ _ _ _ _ h => h⟩
        · refine Step.mk (oi := _) rfl [(76, 12), (87, 23)] (fun cs b h => by cases h) (by kernel_rfl) (fun vs W hI hA => ?_)
          simp only [List.map]
          have h12 : vs 12 = .bool true := hA 12 (by decide)
          have h23 : vs 23 = .bool true := hA 23 (by decide)
          rw [h12, h23]
          simp only [putR, Act.put, List.setIfInBounds_toArray, List.set_cons_zero, List.set_cons_succ]
          refine SOp.val (v := .bool true) (w' := W) (by kernel_rfl) (by go_simp) ⟨hI, upd_self _ _ _, fun _ _ _ _ _ h => h⟩
        · refine Step.mk (oi := _) rfl [(88, 24)] (fun cs b h => by cases h) (by kernel_rfl) (fun vs W hI hA => ?_)
          simp only [List.map]
          have h24 : vs 24 = .bool true := hA 24 (by decide)
          rw [h24]
          simp only [putR, Act.put, List.setIfInBounds_toArray, List.set_cons_zero, List.set_cons_succ]
          refine SOp.val (v := .bool true) (w' := W) (by kernel_rfl) (by go_simp) ⟨hI, upd_self _ _ _, fun _ _ _ _ _ h => h⟩
        · intro vs W hI hφ
          have h25 : vs 25 = .bool true := hφ 25 (by decide) (fun k _ => by simp [shKill])
          simp only [putAll, Act.put, List.setIfInBounds_toArray, List.set_cons_zero, List.set_cons_succ]
          rw [h25]
          go_wp2
          go_ret
          exact ⟨rfl, below_step HB5.out hI⟩
      · have v1 : ((v : Int) == 0) = false := b8n v0
        have v2 : ((v : Int) != 0) = true := by rw [bne, v1]; rfl
        go_wp2_with (go_at_call 15; refine V1.out.mono ?_; rintro e w5 ⟨rfl, hb5⟩)
        go_ret
        exact ⟨rfl, below_step HB4.out hb5⟩
end Go.Proofs.YtdnelpmolenkoaaDoor
