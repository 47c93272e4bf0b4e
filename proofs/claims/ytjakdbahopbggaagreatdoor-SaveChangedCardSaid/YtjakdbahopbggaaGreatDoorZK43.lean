/- What callboardref14.Texts and vars return: whether two rows are the same. Conditions: lengths are lengths. -/
import Derived.Test.YtjakdbahopbggaaGreatDoorZK17
import Derived.Test.YtjakdbahopbggaaGreatDoorZSvQ
import Derived.Test.YtjakdbahopbggaaGreatDoorZInv2
section
namespace Go.Proofs.YtjakdbahopbggaaGreatDoor
open Go.RowKit Go.Ow

set_option maxHeartbeats 2000000 in
theorem rtexts_any (o1 o2 : Option Addr) (m1 m2 c1 c2 : Nat) (f g : Nat → ByteArray) (w : World) (h1 : Ss w o1 m1 f) (h2 : Ss w o2 m2 g) (hm : m1 ≤ 9223372036854775807) (hm2 : m2 ≤ 9223372036854775807) :
    Calls Tryz.prog 52 #[.slice o1 m1 c1, .slice o2 m2 c2] w fun e w' => e = .returned (.bool (eqS m1 m2 f g)) ∧ Below w.heap.size w w' := by
  unfold eqS
  by_cases hmm : m1 = m2
  · subst hmm
    rw [decide_eq_true rfl, Bool.true_and]
    have H1 := Lib.hid h1
    have H2 := Lib.hid h2
    clear h1 h2
    obtain ⟨r, hr⟩ : ∃ r, allF (fun k => decide (f k = g k)) 0 m1 = r := ⟨_, rfl⟩
    rw [hr]
    have HR := Lib.hid hr
    clear hr
    go_enter Tryz.func52, Tryz.ntmps52
    go_wp2
    go_loopw [5] (fun i wr => ∃ k : Nat, k ≤ m1 ∧ i = .int .i64 k ∧ Hid (allF (fun k => decide (f k = g k)) k (m1 - k) = r) ∧ Below w.heap.size w wr) (fun i _ => m1 - (intOf i).toNat)
    case atStart => exact ⟨0, Nat.zero_le _, rfl, HR, Below.refl _ _⟩
    case round =>
      obtain ⟨k, hk, rfl, HK, hB⟩ := hrel
      have HB := Lib.hid hB
      clear hB
      by_cases hlt : k < m1
      · obtain ⟨b, off, rfl, hb, c0⟩ := (H1.out.below HB.out) k hlt
        obtain ⟨b', off', rfl, hb', d0⟩ := (H2.out.below HB.out) k hlt
        have E := Lib.hid (allF_at (fun k => decide (f k = g k)) k m1 hlt)
        have i1 : (k : Int) < (m1 : Int) := by omega
        have i2 : (0 : Int) ≤ (k : Int) := by omega
        by_cases hv : f k = g k
        · have HE : Hid (allF (fun k => decide (f k = g k)) (k + 1) (m1 - (k + 1)) = r) := Lib.hid (by have := HK.out; rw [E.out, decide_eq_true hv, Bool.true_and] at this; exact this)
          rw [hv] at c0
          clear hv E
          go_wp2
          go_quiet (fail)
          go_wp2
          go_roundw
          case rel => exact ⟨k + 1, by omega, by go_num, HE, HB.out.trans (Below.drewN _ _)⟩
          case measure => simp [intOf]; omega
        · have HE : Hid (false = r) := Lib.hid (by have := HK.out; rw [E.out, decide_eq_false hv, Bool.false_and] at this; exact this)
          obtain ⟨u, hu⟩ : ∃ u, f k = u := ⟨_, rfl⟩
          obtain ⟨v, hv'⟩ : ∃ u, g k = u := ⟨_, rfl⟩
          rw [hu] at c0 hv
          rw [hv'] at d0 hv
          have n1 := toList_ne hv
          have n2 := toList_beq hv
          clear hu hv hv' E
          go_wp2
          go_quiet (fail)
          go_wp2
          go_ret
          exact ⟨ret_bool HE.out, HB.out.trans (Below.drewN _ _)⟩
      · obtain rfl : k = m1 := by omega
        have HE : Hid (true = r) := Lib.hid (by have := HK.out; rw [allF_end] at this; exact this)
        go_wp2
        go_ret
        exact ⟨ret_bool HE.out, HB.out⟩
  · rw [decide_eq_false hmm, Bool.false_and]
    have n1 : ((m1 : Int) != (m2 : Int)) = true := by simp; omega
    have n2 : ((m1 : Int) == (m2 : Int)) = false := by simp; omega
    clear h1 h2
    go_enter Tryz.func52, Tryz.ntmps52
    go_wp2
    go_ret
    exact ⟨rfl, Below.refl _ _⟩

set_option maxHeartbeats 4000000 in
theorem rvars_any (o1 o2 : Option Addr) (m1 m2 c1 c2 : Nat) (f g : Nat → Va) (w : World) (h1 : Vr w o1 m1 f) (h2 : Vr w o2 m2 g) (hm : m1 ≤ 9223372036854775807) (hm2 : m2 ≤ 9223372036854775807) :
    Calls Tryz.prog 51 #[.slice o1 m1 c1, .slice o2 m2 c2] w fun e w' => e = .returned (.bool (eqV m1 m2 f g)) ∧ Below w.heap.size w w' := by
  unfold eqV
  by_cases hmm : m1 = m2
  · subst hmm
    rw [decide_eq_true rfl, Bool.true_and]
    have H1 := Lib.hid h1
    have H2 := Lib.hid h2
    clear h1 h2
    obtain ⟨r, hr⟩ : ∃ r, allF (fun k => sameV (f k) (g k)) 0 m1 = r := ⟨_, rfl⟩
    rw [hr]
    have HR := Lib.hid hr
    clear hr
    go_enter Tryz.func51, Tryz.ntmps51
    go_wp2
    go_loopw [5] (fun i wr => ∃ k : Nat, k ≤ m1 ∧ i = .int .i64 k ∧ Hid (allF (fun k => sameV (f k) (g k)) k (m1 - k) = r) ∧ Below w.heap.size w wr) (fun i _ => m1 - (intOf i).toNat)
    case atStart => exact ⟨0, Nat.zero_le _, rfl, HR, Below.refl _ _⟩
    case round =>
      obtain ⟨k, hk, rfl, HK, hB⟩ := hrel
      have HB := Lib.hid hB
      clear hB
      by_cases hlt : k < m1
      · obtain ⟨b, off, rfl, hb, c0, c1, c2, c3⟩ := (H1.out.below HB.out) k hlt
        obtain ⟨b', off', rfl, hb', d0, d1, d2, d3⟩ := (H2.out.below HB.out) k hlt
        have E := Lib.hid (allF_at (fun k => sameV (f k) (g k)) k m1 hlt)
        have i1 : (k : Int) < (m1 : Int) := by omega
        have i2 : (0 : Int) ≤ (k : Int) := by omega
        obtain ⟨u, hu⟩ : ∃ u, f k = u := ⟨_, rfl⟩
        obtain ⟨v, hv⟩ : ∃ u, g k = u := ⟨_, rfl⟩
        rw [hu] at c0 c1 c2 c3 E
        rw [hv] at d0 d1 d2 d3 E
        clear hu hv
        obtain ⟨a, ka, na, ta⟩ := u
        obtain ⟨a', ka', na', ta'⟩ := v
        simp only at c0 c1 c2 c3 d0 d1 d2 d3
        by_cases q : sameV ⟨a, ka, na, ta⟩ ⟨a', ka', na', ta'⟩ = true
        · have HE : Hid (allF (fun k => sameV (f k) (g k)) (k + 1) (m1 - (k + 1)) = r) := Lib.hid (by have := HK.out; rw [E.out, q, Bool.true_and] at this; exact this)
          obtain ⟨rfl, rfl, rfl, rfl⟩ : a = a' ∧ ka = ka' ∧ na = na' ∧ ta = ta' := of_decide_eq_true q
          clear q E
          go_wp2
          go_quiet (fail)
          go_wp2
          go_roundw
          case rel => exact ⟨k + 1, by omega, by go_num, HE, HB.out.trans (Below.drewN _ _)⟩
          case measure => simp [intOf]; omega
        · have HE : Hid (false = r) := Lib.hid (by have := HK.out; rw [E.out, eq_false_of_ne_true q, Bool.false_and] at this; exact this)
          have q' : a ≠ a' ∨ (a = a' ∧ ka ≠ ka') ∨ (a = a' ∧ ka = ka' ∧ na ≠ na') ∨ (a = a' ∧ ka = ka' ∧ na = na' ∧ ta ≠ ta') := by
            have q2 : ¬ (a = a' ∧ ka = ka' ∧ na = na' ∧ ta = ta') := fun h => q (decide_eq_true h)
            by_cases e1 : a = a'
            · by_cases e2 : ka = ka'
              · by_cases e3 : na = na'
                · exact .inr (.inr (.inr ⟨e1, e2, e3, fun e4 => q2 ⟨e1, e2, e3, e4⟩⟩))
                · exact .inr (.inr (.inl ⟨e1, e2, e3⟩))
              · exact .inr (.inl ⟨e1, e2⟩)
            · exact .inl e1
          clear q E
          rcases q' with e | ⟨rfl, e⟩ | ⟨rfl, rfl, e⟩ | ⟨rfl, rfl, rfl, e⟩
          · have n1 := toList_ne e
            have n2 := toList_beq e
            clear e
            go_wp2
            go_quiet (fail)
            go_wp2
            go_ret
            exact ⟨ret_bool HE.out, HB.out.trans (Below.drewN _ _)⟩
          · have n1 : ¬ (ka : Int) = ka' := by omega
            have n2 : ((ka : Int) == ka') = false := by simpa using n1
            clear e
            go_wp2
            go_quiet (fail)
            go_wp2
            go_ret
            exact ⟨ret_bool HE.out, HB.out.trans (Below.drewN _ _)⟩
          · have n2 : (na == na') = false := by simpa using e
            go_wp2
            go_quiet (fail)
            go_wp2
            go_ret
            exact ⟨ret_bool HE.out, HB.out.trans (Below.drewN _ _)⟩
          · have n1 := toList_ne e
            have n2 := toList_beq e
            clear e
            go_wp2
            go_quiet (fail)
            go_wp2
            go_ret
            exact ⟨ret_bool HE.out, HB.out.trans (Below.drewN _ _)⟩
      · obtain rfl : k = m1 := by omega
        have HE : Hid (true = r) := Lib.hid (by have := HK.out; rw [allF_end] at this; exact this)
        go_wp2
        go_ret
        exact ⟨ret_bool HE.out, HB.out⟩
  · rw [decide_eq_false hmm, Bool.false_and]
    have n1 : ((m1 : Int) != (m2 : Int)) = true := by simp; omega
    have n2 : ((m1 : Int) == (m2 : Int)) = false := by simp; omega
    clear h1 h2
    go_enter Tryz.func51, Tryz.ntmps51
    go_wp2
    go_ret
    exact ⟨rfl, Below.refl _ _⟩
end Go.Proofs.YtjakdbahopbggaaGreatDoor
end
/- The law of Inv2 with an invariant that may speak of the values so far (a slot that has not come up yet is undef). Conditions: none. -/
section
namespace Go.Inv2
open Go.RowKit

section
variable {P : Program} {ops : Array Oper} {Q : Exit → Act → World → Prop} {md : Region.Mode}

def Step3 (P : Program) (ops : Array Oper) (md : Region.Mode) (a0 : Act) (I : (Nat → Value) → World → Prop) (φ : Nat → (Nat → Value) → World → Prop) (need anc : Nat → List Nat) (kill : Nat → Nat → Bool) (i : Nat) : Prop :=
  ∀ (o : Oper), ops[i]? = some o → ∀ vs w, I vs w → (∀ j ∈ need i, φ j vs w) →
    SOp P ops o (fun v w' => I (upd vs i v) w' ∧ φ i (upd vs i v) w' ∧ ∀ j, j ≠ i → kill i j = false → (anc j).contains i = false → φ j (upd vs i v) w → φ j (upd vs i v) w') (putL ops (fun j => waits md ops i j) vs a0) w

structure Known3 (ops : Array Oper) (md : Region.Mode) (I : (Nat → Value) → World → Prop) (φ : Nat → (Nat → Value) → World → Prop) (anc : Nat → List Nat) (kill : Nat → Nat → Bool) (listed : Array Bool) (vs : Nat → Value) (w : World) : Prop where
  inv : I vs w
  anc : ∀ j, listed.getD j false = true → ∀ d ∈ anc j, listed.getD d false = true
  wait : ∀ j, listed.getD j false = true → ∀ d, waits md ops j d = true → listed.getD d false = true
  phi : ∀ j, (listed.getD j false = true ∨ ops.size ≤ j) → (∀ k, listed.getD k false = true → kill k j = false) → φ j vs w

theorem any_of_known3 {a0 : Act} {I : (Nat → Value) → World → Prop} {φ : Nat → (Nat → Value) → World → Prop} {need anc : Nat → List Nat} {kill : Nat → Nat → Bool}
    (hchk : chk md ops a0.tmps.size need anc kill = true)
    (used : ∀ j vs vs' w, (∀ d ∈ j :: anc j, vs' d = vs d) → φ j vs w → φ j vs' w)
    (step : ∀ i, i < ops.size → Step3 P ops md a0 I φ need anc kill i)
    (hv : ∀ j, ops.size ≤ j → anc j = [])
    (fin : ∀ vs w listed, (∀ i, i < ops.size → listed i = true) → I vs w → (∀ j, (∀ k, k < ops.size → kill k j = false) → φ j vs w) → Q .normal (putL ops listed vs a0) w) :
    ∀ (fuel : Nat) (listed : Array Bool) (vs : Nat → Value) (w : World), listed.size = ops.size → ((List.range ops.size).filter fun j => !listed.getD j false).length ≤ fuel →
      Known3 ops md I φ anc kill listed vs w → wpAny P md ops Q fuel listed (putL ops (fun j => listed.getD j false) vs a0) w := by
  have hall : ∀ i (o : Oper), ops[i]? = some o → _ := fun i o hi => List.all_eq_true.1 (by unfold chk at hchk; exact hchk) i (List.mem_range.2 (Array.getElem?_eq_some_iff.1 hi).1)
  have over : ∀ (listed : Array Bool), listed.size = ops.size → Region.ready md ops listed = [] → ∀ i, i < ops.size → listed.getD i false = true := by
    intro listed hsz hr i
    induction i using Nat.strongRecOn with
    | ind i ih =>
      intro hi
      cases hl : listed.getD i false
      case true => rfl
      case false =>
        exfalso
        have hio : ops[i]? = some ops[i] := Array.getElem?_eq_getElem hi
        have h := hall i _ hio
        simp only [hio, Bool.and_eq_true, Array.all_eq_true_iff_forall_mem, Bool.or_eq_true, Bool.not_eq_true', decide_eq_true_eq] at h
        have hm : i ∈ Region.ready md ops listed := mem_ready.2 ⟨by rw [getD_tf (by omega)]; exact hl, _, hio, fun e he hb => ih e.on ((h.2 e he).resolve_left (by simp [hb])) (by have := (h.2 e he).resolve_left (by simp [hb]); omega)⟩
        rw [hr] at hm
        cases hm
  have last : ∀ (listed : Array Bool) vs w, listed.size = ops.size → (∀ i, i < ops.size → listed.getD i false = true) → Known3 ops md I φ anc kill listed vs w → Q .normal (putL ops (fun j => listed.getD j false) vs a0) w :=
    fun listed vs w hsz hl hk => fin vs w _ hl hk.inv fun j hkill => hk.phi j (by rcases Nat.lt_or_ge j ops.size with h | h; exact .inl (hl j h); exact .inr h) fun k hk' => hkill k (by have := getD_lt hk'; omega)
  intro fuel
  induction fuel with
  | zero =>
    intro listed vs w hsz hf hk
    have hl : ∀ i, i < ops.size → listed.getD i false = true := fun i hi => by
      cases h : listed.getD i false
      case true => rfl
      case false =>
        have : i ∈ (List.range ops.size).filter fun j => !listed.getD j false := List.mem_filter.2 ⟨List.mem_range.2 hi, by simp [h]⟩
        have hz := List.eq_nil_of_length_eq_zero (Nat.le_zero.1 hf)
        rw [hz] at this
        cases this
    refine ⟨?_, last listed vs w hsz hl hk⟩
    cases hr : Region.ready md ops listed with
    | nil => rfl
    | cons i l =>
      have hm : i ∈ Region.ready md ops listed := by rw [hr]; exact List.mem_cons_self
      obtain ⟨hu, o, ho, _⟩ := mem_ready.1 hm
      have hlt := (Array.getElem?_eq_some_iff.1 ho).1
      rw [getD_tf (by omega), hl i hlt] at hu
      cases hu
  | succ fuel ih =>
    intro listed vs w hsz hf hk
    refine ⟨fun hr => last listed vs w hsz (over listed hsz hr) hk, fun i hi => ?_⟩
    obtain ⟨hu, o, ho, hdeps⟩ := mem_ready.1 hi
    have hlt := (Array.getElem?_eq_some_iff.1 ho).1
    rw [getD_tf (by omega)] at hu
    have hw : ∀ j, waits md ops i j = true → listed.getD j false = true := fun j hj => by
      obtain ⟨e, he, hb, rfl⟩ := mem_of_waits ho hj
      exact hdeps e he hb
    have h := hall i o ho
    simp only [ho, Bool.and_eq_true] at h
    obtain ⟨⟨⟨⟨⟨h1, h2⟩, h3⟩, h4⟩, h5⟩, h6⟩ := h
    have hsel : ∀ cs b, o.op ≠ .select cs b := fun cs b e => by rw [e] at h1; cases h1
    have hanc : ∀ d ∈ anc i, listed.getD d false = true := fun d hd => by
      have := List.all_eq_true.1 h4 d hd
      simp only [Bool.or_eq_true, List.any_eq_true, Bool.and_eq_true] at this
      rcases this with h' | ⟨e, _, he, hc⟩
      · exact hw d h'
      · exact hk.anc e (hw e he) d (by simpa using hc)
    have hphi : ∀ j ∈ need i, φ j vs w := fun j hj => by
      have h5j := List.all_eq_true.1 h5 j hj
      rw [Bool.and_eq_true] at h5j
      refine hk.phi j ((Bool.or_eq_true _ _ ▸ h5j.1).elim (fun h => .inr (of_decide_eq_true h)) fun h => .inl (hanc j (by simpa using h))) fun k hkl => ?_
      have h' := List.all_eq_true.1 h5j.2 k (List.mem_range.2 (by have := getD_lt hkl; omega))
      simp only [Bool.or_eq_true, Bool.not_eq_true', decide_eq_true_eq] at h'
      rcases h' with (h' | rfl) | h'
      · exact h'
      · rw [hu] at hkl; cases hkl
      · have := hk.anc k hkl i (by simpa using h')
        rw [hu] at this; cases this
    have hs := step i hlt o ho vs w hk.inv hphi
    have hs' := SOp.listed (l' := fun j => listed.getD j false) hsel (fun t ht j hj => by
      have h' := List.all_eq_true.1 h3 t ht
      simp only [hj, Bool.or_eq_true, decide_eq_true_eq] at h'
      cases hwj : waits md ops i j
      · rw [hwj] at h'
        show false = listed.getD j false
        rcases h' with (rfl | h') | h'
        · exact hu.symm
        · cases h'
        · cases hl : listed.getD j false
          · rfl
          · have := hk.wait j hl i h'
            rw [hu] at this; cases this
      · exact (hw j hwj).symm) hs
    refine SOp.wpOp ho hs' fun v w' ⟨hI, hφ, hkeep⟩ => ?_
    have hdd : ∀ d, o.dst = some d → writer ops d = some i ∧ d < a0.tmps.size := fun d hd => by
      simp only [hd, Bool.and_eq_true, decide_eq_true_eq] at h2
      exact h2
    rw [putL_put _ _ _ i o ho hdd]
    have hset : (fun j => decide (j = i) || listed.getD j false) = fun j => (listed.setIfInBounds i true).getD j false := funext fun j => (getD_set listed i j (by omega)).symm
    rw [hset]
    refine ih (listed.setIfInBounds i true) (upd vs i v) w' (by simpa using hsz) ?_ ?_
    · -- one fewer
      have hlen : ((List.range ops.size).filter fun j => !(listed.setIfInBounds i true).getD j false).length < ((List.range ops.size).filter fun j => !listed.getD j false).length := by
        have e : ((List.range ops.size).filter fun j => !(listed.setIfInBounds i true).getD j false) = ((List.range ops.size).filter fun j => !listed.getD j false).filter fun j => !decide (j = i) := by
          rw [List.filter_filter]
          refine List.filter_congr fun j _ => ?_
          rw [getD_set listed i j (by omega)]
          cases decide (j = i) <;> cases listed.getD j false <;> rfl
        rw [e]
        exact List.length_filter_lt_length_iff_exists.2 ⟨i, List.mem_filter.2 ⟨List.mem_range.2 hlt, by simp [hu]⟩, by simp⟩
      omega
    · have hin : ∀ j, (listed.setIfInBounds i true).getD j false = true → j = i ∨ (j ≠ i ∧ listed.getD j false = true) := fun j hj => by
        rw [getD_set listed i j (by omega)] at hj
        by_cases hji : j = i
        · exact .inl hji
        · exact .inr ⟨hji, by simpa [hji] using hj⟩
      have hout : ∀ j, listed.getD j false = true → (listed.setIfInBounds i true).getD j false = true := fun j hj => by
        rw [getD_set listed i j (by omega), hj, Bool.or_true]
      refine ⟨hI, fun j hj d hd => ?_, fun j hj d hd => ?_, fun j hj hkill => ?_⟩
      · rcases hin j hj with rfl | ⟨_, hl⟩
        · exact hout d (hanc d hd)
        · exact hout d (hk.anc j hl d hd)
      · rcases hin j hj with rfl | ⟨_, hl⟩
        · exact hout d (hw d hd)
        · exact hout d (hk.wait j hl d hd)
      · have hj' : j = i ∨ (j ≠ i ∧ (listed.getD j false = true ∨ ops.size ≤ j)) := by
          rcases hj with hj | hj
          · exact (hin j hj).imp id fun h => ⟨h.1, .inl h.2⟩
          · exact .inr ⟨by omega, .inr hj⟩
        rcases hj' with rfl | ⟨hne, hl⟩
        · exact hφ
        · have hself : ∀ d ∈ j :: anc j, d ≠ i := fun d hd => by
            rcases hl with hl | hl
            · rcases List.mem_cons.1 hd with rfl | hd
              · exact hne
              · intro e
                have := hk.anc j hl d hd
                rw [e, hu] at this
                cases this
            · rw [hv j hl] at hd
              rcases List.mem_cons.1 hd with rfl | hd
              · exact hne
              · cases hd
          have hsi : (listed.setIfInBounds i true).getD i false = true := by rw [getD_set listed i i (by omega)]; simp
          refine hkeep j hne (hkill i hsi) ?_ (used j vs _ w (fun d hd => ?_) (hk.phi j hl fun k hk' => hkill k (hout k hk')))
          · cases hc : (anc j).contains i
            · rfl
            · exact absurd rfl (hself i (List.mem_cons_of_mem _ (by simpa using hc)))
          · exact upd_ne _ _ (hself d hd)

theorem wp_region_inv3 {id : Nat} {a0 : Act} {w : World} (hm : P.follows .mixedOrders = true) (I : (Nat → Value) → World → Prop) (φ : Nat → (Nat → Value) → World → Prop) (need anc : Nat → List Nat) (kill : Nat → Nat → Bool)
    (l : List (Option Nat)) (hl : ops.toList.map (·.dst) = l) (hchk : chk .any ops a0.tmps.size need anc kill = true)
    (used : ∀ j vs vs' w, (∀ d ∈ j :: anc j, vs' d = vs d) → φ j vs w → φ j vs' w) (hI : I (fun _ => undef) w.drew) (hv : ∀ j, ops.size ≤ j → anc j = []) (hinit : ∀ j, ops.size ≤ j → φ j (fun _ => undef) w.drew)
    (step : ∀ i, i < ops.size → Step3 P ops .any a0 I φ need anc kill i)
    (fin : ∀ vs w, I vs w → (∀ j, (∀ k, k < ops.size → kill k j = false) → φ j vs w) → Q .normal (putAll l 0 vs a0) w) : (Code.region id ops true).wp P Q a0 w := by
  refine wp_region_any hm ?_
  have hall : ∀ i (o : Oper), ops[i]? = some o → _ := fun i o hi => List.all_eq_true.1 (by have := hchk; unfold chk at this; exact this) i (List.mem_range.2 (Array.getElem?_eq_some_iff.1 hi).1)
  have hd : ∀ i o d, ops[i]? = some o → o.dst = some d → writer ops d = some i ∧ d < a0.tmps.size := fun i o d hi hdst => by
    have h := hall i o hi
    simp only [hi, Bool.and_eq_true] at h
    have h2 := h.1.1.1.1.2
    simp only [hdst, Bool.and_eq_true, decide_eq_true_eq] at h2
    exact h2
  have hg : ∀ j, (Array.replicate ops.size false).getD j false = false := fun j => by
    by_cases h : j < ops.size <;> simp [h]
  have h0 : putL ops (fun j => (Array.replicate ops.size false).getD j false) (fun _ => undef) a0 = a0 := by
    rw [show (fun j => (Array.replicate ops.size false).getD j false) = fun _ => false from funext hg]
    exact putL_none _ _
  have := any_of_known3 (P := P) (Q := Q) hchk used step hv (fun vs w listed hlist hI hφ => ?_) ops.size (Array.replicate ops.size false) (fun _ => undef) w.drew (by simp) ?_
    ⟨hI, fun j hj => (by rw [hg] at hj; cases hj), fun j hj => (by rw [hg] at hj; cases hj), fun j hj _ => (by rcases hj with hj | hj; (rw [hg] at hj; cases hj); exact hinit j hj)⟩
  rotate_left
  · have hf := fin vs w hI hφ
    have hlen : l.length = ops.size := by rw [← hl]; simp
    have h1 := putAll_eq (ops := ops) a0 vs hd l 0 (by omega) (fun k hk => by rw [← hl]; simp)
    have h2 : putL ops (fun i => decide (i < 0)) vs a0 = a0 := by
      rw [show (fun i : Nat => decide (i < 0)) = fun _ => false from funext fun i => by simp]
      exact putL_none _ _
    rw [h2] at h1
    rw [h1] at hf
    have h3 : putL ops listed vs a0 = putL ops (fun i => decide (i < ops.size)) vs a0 := by
      unfold putL
      congr 1
      apply Array.ext_getElem?
      intro t
      simp only [Array.getElem?_mapIdx]
      cases hw : writer ops t with
      | none => rfl
      | some i =>
        have := (writer_spec hw).1
        simp [hlist i this, this]
    rw [h3]
    exact hf
  · exact Nat.le_trans (List.length_filter_le _ _) (by simp)
  · rw [h0] at this
    exact this

def Steps3 (P : Program) (ops : Array Oper) (a0 : Act) (I : (Nat → Value) → World → Prop) (φ : Nat → (Nat → Value) → World → Prop) (need anc : Nat → List Nat) (kill : Nat → Nat → Bool) : Nat → Nat → Prop
  | _, 0 => True
  | i, n + 1 => Step3 P ops .any a0 I φ need anc kill i ∧ Steps3 P ops a0 I φ need anc kill (i + 1) n

theorem Steps3.step {a0 : Act} {I : (Nat → Value) → World → Prop} {φ : Nat → (Nat → Value) → World → Prop} {need anc : Nat → List Nat} {kill : Nat → Nat → Bool} :
    ∀ (n i : Nat), Steps3 P ops a0 I φ need anc kill i n → ∀ j, i ≤ j → j < i + n → Step3 P ops .any a0 I φ need anc kill j
  | 0, i, _, j, h1, h2 => by omega
  | n + 1, i, h, j, h1, h2 => by
    by_cases e : j = i
    · subst e; exact h.1
    · exact Steps3.step n (i + 1) h.2 j (by omega) (by omega)

theorem Step3.mk {md : Region.Mode} {a0 : Act} {I : (Nat → Value) → World → Prop} {φ : Nat → (Nat → Value) → World → Prop} {need anc : Nat → List Nat} {kill : Nat → Nat → Bool} {i : Nat} {oi : Oper} (hi : ops[i]? = some oi)
    (rs : List (Nat × Nat)) (hs : ∀ cs b, oi.op ≠ .select cs b) (hl : lookB md ops i a0.tmps.size rs = true)
    (h : ∀ vs w, I vs w → (∀ j ∈ need i, φ j vs w) → SOp P ops oi (fun v w' => I (upd vs i v) w' ∧ φ i (upd vs i v) w' ∧ ∀ j, j ≠ i → kill i j = false → (anc j).contains i = false → φ j (upd vs i v) w → φ j (upd vs i v) w') (putR (rs.map fun p => (p.1, vs p.2)) a0) w) :
    Step3 P ops md a0 I φ need anc kill i := by
  intro o ho vs w hI hA
  rw [hi] at ho
  obtain rfl := Option.some.inj ho
  exact SOp.at _ (look_spec hi rs hl vs) hs (h vs w hI hA)

theorem wp_region_asrt3 {id : Nat} {a0 : Act} {w : World} (hm : P.follows .mixedOrders = true) (I : (Nat → Value) → World → Prop) (Φ : Nat → Value → List Value → World → Prop) (dep need anc : Nat → List Nat) (kill : Nat → Nat → Bool) (n : Nat)
    (l : List (Option Nat)) (hl : ops.toList.map (·.dst) = l) (hn : ops.size = n) (hchk : chk .any ops a0.tmps.size need anc kill = true) (hdep : ∀ j, ∀ d ∈ dep j, d ∈ anc j) (hI : I (fun _ => undef) w.drew)
    (hv : ∀ j, n ≤ j → anc j = []) (hinit : ∀ j, n ≤ j → Φ j undef [] w.drew) (hvd : ∀ j, n ≤ j → dep j = [])
    (steps : Steps3 P ops a0 I (asrt Φ dep) need anc kill 0 n)
    (fin : ∀ vs w, I vs w → (∀ j, (∀ k, k < n → kill k j = false) → Φ j (vs j) ((dep j).map vs) w) → Q .normal (putAll l 0 vs a0) w) : (Code.region id ops true).wp P Q a0 w := by
  subst hn
  refine wp_region_inv3 hm I (asrt Φ dep) need anc kill l hl hchk (fun j vs vs' w hv h => ?_) hI hv (fun j hj => by unfold asrt; rw [hvd j hj]; exact hinit j hj) (fun i hi => Steps3.step _ _ steps i (Nat.zero_le _) (by omega)) fin
  unfold asrt at *
  have h1 : vs' j = vs j := hv j List.mem_cons_self
  have h2 : (dep j).map vs' = (dep j).map vs := List.map_congr_left fun d hd => hv d (List.mem_cons_of_mem _ (hdep j d hd))
  rw [h1, h2]
  exact h

end
end Go.Inv2
end
