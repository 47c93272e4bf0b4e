/- The law of Inv2 with an invariant that may speak of the values so far (a slot that has not come up yet is undef). Conditions: none. -/
import Derived.Test.YtdnelpmolenkoaaDoorInv2
namespace Go.Inv2
open Go.RowKit

section
variable {P : Program} {ops : Array Oper} {Q : Exit → Act → World → Prop} {md : Region.Mode}

def Step3 (P : Program) (ops : Array Oper) (md : Region.Mode) (a0 : Act) (I : (Nat → Value) → World → Prop) (φ : Nat → (Nat → Value) → World → Prop) (need anc : Nat → List Nat) (kill : Nat → Nat → Bool) (i : Nat) : Prop :=
  ∀ (o : Oper), ops[i]? = some o → ∀ vs w, I vs w → (∀ j ∈ need i, φ j vs w) →
    SOp P ops o (fun v w' => I (upd vs i v) w' ∧ φ i (upd vs i v) w' ∧ ∀ j, j ≠ i → kill i j = false → (anc j).contains i = false → φ j (upd vs i v) w → φ j (upd vs i v) w') (putL ops (fun j => waits md ops i j) vs a0) w

structure Known3 (ops : Array Oper) (md : Region.Mode) (I : (Nat → Value) → World → Prop) (φ : Nat → (Nat → Value) → World → Prop) (anc : Nat → List Nat) (kill : Nat → Nat → Bool) (listed : Array Bool) (vs : Nat → Value) (w : World) : Prop where
  inv : I vs w
  anc : ∀ j, listed.getD j false = true → ∀ d ∈ anc j, listed.getD d false = true
  wait : ∀ j, listed.getD j false = true → ∀ d, waits md ops j d = true → listed.getD d false = true
  phi : ∀ j, (listed.getD j false = true ∨ ops.size ≤ j) → (∀ k, listed.getD k false = true → kill k j = false) → φ j vs w

theorem any_of_known3 {a0 : Act} {I : (Nat → Value) → World → Prop} {φ : Nat → (Nat → Value) → World → Prop} {need anc : Nat → List Nat} {kill : Nat → Nat → Bool}
    (hchk : chk md ops a0.tmps.size need anc kill = true)
    (used : ∀ j vs vs' w, (∀ d ∈ j :: anc j, vs' d = vs d) → φ j vs w → φ j vs' w)
    (step : ∀ i, i < ops.size → Step3 P ops md a0 I φ need anc kill i)
    (hv : ∀ j, ops.size ≤ j → anc j = [])
    (fin : ∀ vs w listed, (∀ i, i < ops.size → listed i = true) → I vs w → (∀ j, (∀ k, k < ops.size → kill k j = false) → φ j vs w) → Q .normal (putL ops listed vs a0) w) :
    ∀ (fuel : Nat) (listed : Array Bool) (vs : Nat → Value) (w : World), listed.size = ops.size → ((List.range ops.size).filter fun j => !listed.getD j false).length ≤ fuel →
      Known3 ops md I φ anc kill listed vs w → wpAny P md ops Q fuel listed (putL ops (fun j => listed.getD j false) vs a0) w := by
  have hall : ∀ i (o : Oper), ops[i]? = some o → _ := fun i o hi => List.all_eq_true.1 (by unfold chk at hchk; exact hchk) i (List.mem_range.2 (Array.getElem?_eq_some_iff.1 hi).1)
  have over : ∀ (listed : Array Bool), listed.size = ops.size → Region.ready md ops listed = [] → ∀ i, i < ops.size → listed.getD i false = true := by
    intro listed hsz hr i
    induction i using Nat.strongRecOn with
    | ind i ih =>
      intro hi
      cases hl : listed.getD i false
      case true => rfl
      case false =>
        exfalso
        have hio : ops[i]? = some ops[i] := Array.getElem?_eq_getElem hi
        have h := hall i _ hio
        simp only [hio, Bool.and_eq_true, Array.all_eq_true_iff_forall_mem, Bool.or_eq_true, Bool.not_eq_true', decide_eq_true_eq] at h
        have hm : i ∈ Region.ready md ops listed := mem_ready.2 ⟨by rw [getD_tf (by omega)]; exact hl, _, hio, fun e he hb => ih e.on ((h.2 e he).resolve_left (by simp [hb])) (by have := (h.2 e he).resolve_left (by simp [hb]); omega)⟩
        rw [hr] at hm
        cases hm
  have last : ∀ (listed : Array Bool) vs w, listed.size = ops.size → (∀ i, i < ops.size → listed.getD i false = true) → Known3 ops md I φ anc kill listed vs w → Q .normal (putL ops (fun j => listed.getD j false) vs a0) w :=
    fun listed vs w hsz hl hk => fin vs w _ hl hk.inv fun j hkill => hk.phi j (by rcases Nat.lt_or_ge j ops.size with h | h; exact .inl (hl j h); exact .inr h) fun k hk' => hkill k (by have := getD_lt hk'; omega)
  intro fuel
  induction fuel with
  | zero =>
    intro listed vs w hsz hf hk
    have hl : ∀ i, i < ops.size → listed.getD i false = true := fun i hi => by
      cases h : listed.getD i false
      case true => rfl
      case false =>
        have : i ∈ (List.range ops.size).filter fun j => !listed.getD j false := List.mem_filter.2 ⟨List.mem_range.2 hi, by simp [h]⟩
        have hz := List.eq_nil_of_length_eq_zero (Nat.le_zero.1 hf)
        rw [hz] at this
        cases this
    refine ⟨?_, last listed vs w hsz hl hk⟩
    cases hr : Region.ready md ops listed with
    | nil => rfl
    | cons i l =>
      have hm : i ∈ Region.ready md ops listed := by rw [hr]; exact List.mem_cons_self
      obtain ⟨hu, o, ho, _⟩ := mem_ready.1 hm
      have hlt := (Array.getElem?_eq_some_iff.1 ho).1
      rw [getD_tf (by omega), hl i hlt] at hu
      cases hu
  | succ fuel ih =>
    intro listed vs w hsz hf hk
    refine ⟨fun hr => last listed vs w hsz (over listed hsz hr) hk, fun i hi => ?_⟩
    obtain ⟨hu, o, ho, hdeps⟩ := mem_ready.1 hi
    have hlt := (Array.getElem?_eq_some_iff.1 ho).1
    rw [getD_tf (by omega)] at hu
    have hw : ∀ j, waits md ops i j = true → listed.getD j false = true := fun j hj => by
      obtain ⟨e, he, hb, rfl⟩ := mem_of_waits ho hj
      exact hdeps e he hb
    have h := hall i o ho
    simp only [ho, Bool.and_eq_true] at h
    obtain ⟨⟨⟨⟨⟨h1, h2⟩, h3⟩, h4⟩, h5⟩, h6⟩ := h
    have hsel : ∀ cs b, o.op ≠ .select cs b := fun cs b e => by rw [e] at h1; cases h1
    have hanc : ∀ d ∈ anc i, listed.getD d false = true := fun d hd => by
      have := List.all_eq_true.1 h4 d hd
      simp only [Bool.or_eq_true, List.any_eq_true, Bool.and_eq_true] at this
      rcases this with h' | ⟨e, _, he, hc⟩
      · exact hw d h'
      · exact hk.anc e (hw e he) d (by simpa using hc)
    have hphi : ∀ j ∈ need i, φ j vs w := fun j hj => by
      have h5j := List.all_eq_true.1 h5 j hj
      rw [Bool.and_eq_true] at h5j
      refine hk.phi j ((Bool.or_eq_true _ _ ▸ h5j.1).elim (fun h => .inr (of_decide_eq_true h)) fun h => .inl (hanc j (by simpa using h))) fun k hkl => ?_
      have h' := List.all_eq_true.1 h5j.2 k (List.mem_range.2 (by have := getD_lt hkl; omega))
      simp only [Bool.or_eq_true, Bool.not_eq_true', decide_eq_true_eq] at h'
      rcases h' with (h' | rfl) | h'
      · exact h'
      · rw [hu] at hkl; cases hkl
      · have := hk.anc k hkl i (by simpa using h')
        rw [hu] at this; cases this
    have hs := step i hlt o ho vs w hk.inv hphi
    have hs' := SOp.listed (l' := fun j => listed.getD j false) hsel (fun t ht j hj => by
      have h' := List.all_eq_true.1 h3 t ht
      simp only [hj, Bool.or_eq_true, decide_eq_true_eq] at h'
      cases hwj : waits md ops i j
      · rw [hwj] at h'
        show false = listed.getD j false
        rcases h' with (rfl | h') | h'
        · exact hu.symm
        · cases h'
        · cases hl : listed.getD j false
          · rfl
          · have := hk.wait j hl i h'
            rw [hu] at this; cases this
      · exact (hw j hwj).symm) hs
    refine SOp.wpOp ho hs' fun v w' ⟨hI, hφ, hkeep⟩ => ?_
    have hdd : ∀ d, o.dst = some d → writer ops d = some i ∧ d < a0.tmps.size := fun d hd => by
      simp only [hd, Bool.and_eq_true, decide_eq_true_eq] at h2
      exact h2
    rw [putL_put _ _ _ i o ho hdd]
    have hset : (fun j => decide (j = i) || listed.getD j false) = fun j => (listed.setIfInBounds i true).getD j false := funext fun j => (getD_set listed i j (by omega)).symm
    rw [hset]
    refine ih (listed.setIfInBounds i true) (upd vs i v) w' (by simpa using hsz) ?_ ?_
    · -- one fewer
      have hlen : ((List.range ops.size).filter fun j => !(listed.setIfInBounds i true).getD j false).length < ((List.range ops.size).filter fun j => !listed.getD j false).length := by
        have e : ((List.range ops.size).filter fun j => !(listed.setIfInBounds i true).getD j false) = ((List.range ops.size).filter fun j => !listed.getD j false).filter fun j => !decide (j = i) := by
          rw [List.filter_filter]
          refine List.filter_congr fun j _ => ?_
          rw [getD_set listed i j (by omega)]
          cases decide (j = i) <;> cases listed.getD j false <;> rfl
        rw [e]
        exact List.length_filter_lt_length_iff_exists.2 ⟨i, List.mem_filter.2 ⟨List.mem_range.2 hlt, by simp [hu]⟩, by simp⟩
      omega
    · have hin : ∀ j, (listed.setIfInBounds i true).getD j false = true → j = i ∨ (j ≠ i ∧ listed.getD j false = true) := fun j hj => by
        rw [getD_set listed i j (by omega)] at hj
        by_cases hji : j = i
        · exact .inl hji
        · exact .inr ⟨hji, by simpa [hji] using hj⟩
      have hout : ∀ j, listed.getD j false = true → (listed.setIfInBounds i true).getD j false = true := fun j hj => by
        rw [getD_set listed i j (by omega), hj, Bool.or_true]
      refine ⟨hI, fun j hj d hd => ?_, fun j hj d hd => ?_, fun j hj hkill => ?_⟩
      · rcases hin j hj with rfl | ⟨_, hl⟩
        · exact hout d (hanc d hd)
        · exact hout d (hk.anc j hl d hd)
      · rcases hin j hj with rfl | ⟨_, hl⟩
        · exact hout d (hw d hd)
        · exact hout d (hk.wait j hl d hd)
      · have hj' : j = i ∨ (j ≠ i ∧ (listed.getD j false = true ∨ ops.size ≤ j)) := by
          rcases hj with hj | hj
          · exact (hin j hj).imp id fun h => ⟨h.1, .inl h.2⟩
          · exact .inr ⟨by omega, .inr hj⟩
        rcases hj' with rfl | ⟨hne, hl⟩
        · exact hφ
        · have hself : ∀ d ∈ j :: anc j, d ≠ i := fun d hd => by
            rcases hl with hl | hl
            · rcases List.mem_cons.1 hd with rfl | hd
              · exact hne
              · intro e
                have := hk.anc j hl d hd
                rw [e, hu] at this
                cases this
            · rw [hv j hl] at hd
              rcases List.mem_cons.1 hd with rfl | hd
              · exact hne
              · cases hd
          have hsi : (listed.setIfInBounds i true).getD i false = true := by rw [getD_set listed i i (by omega)]; simp
          refine hkeep j hne (hkill i hsi) ?_ (used j vs _ w (fun d hd => ?_) (hk.phi j hl fun k hk' => hkill k (hout k hk')))
          · cases hc : (anc j).contains i
            · rfl
            · exact absurd rfl (hself i (List.mem_cons_of_mem _ (by simpa using hc)))
          · exact upd_ne _ _ (hself d hd)

theorem wp_region_inv3 {id : Nat} {a0 : Act} {w : World} (hm : P.follows .mixedOrders = true) (I : (Nat → Value) → World → Prop) (φ : Nat → (Nat → Value) → World → Prop) (need anc : Nat → List Nat) (kill : Nat → Nat → Bool)
    (l : List (Option Nat)) (hl : ops.toList.map (·.dst) = l) (hchk : chk .any ops a0.tmps.size need anc kill = true)
    (used : ∀ j vs vs' w, (∀ d ∈ j :: anc j, vs' d = vs d) → φ j vs w → φ j vs' w) (hI : I (fun _ => undef) w.drew) (hv : ∀ j, ops.size ≤ j → anc j = []) (hinit : ∀ j, ops.size ≤ j → φ j (fun _ => undef) w.drew)
    (step : ∀ i, i < ops.size → Step3 P ops .any a0 I φ need anc kill i)
    (fin : ∀ vs w, I vs w → (∀ j, (∀ k, k < ops.size → kill k j = false) → φ j vs w) → Q .normal (putAll l 0 vs a0) w) : (Code.region id ops true).wp P Q a0 w := by
  refine wp_region_any hm ?_
  have hall : ∀ i (o : Oper), ops[i]? = some o → _ := fun i o hi => List.all_eq_true.1 (by have := hchk; unfold chk at this; exact this) i (List.mem_range.2 (Array.getElem?_eq_some_iff.1 hi).1)
  have hd : ∀ i o d, ops[i]? = some o → o.dst = some d → writer ops d = some i ∧ d < a0.tmps.size := fun i o d hi hdst => by
    have h := hall i o hi
    simp only [hi, Bool.and_eq_true] at h
    have h2 := h.1.1.1.1.2
    simp only [hdst, Bool.and_eq_true, decide_eq_true_eq] at h2
    exact h2
  have hg : ∀ j, (Array.replicate ops.size false).getD j false = false := fun j => by
    by_cases h : j < ops.size <;> simp [h]
  have h0 : putL ops (fun j => (Array.replicate ops.size false).getD j false) (fun _ => undef) a0 = a0 := by
    rw [show (fun j => (Array.replicate ops.size false).getD j false) = fun _ => false from funext hg]
    exact putL_none _ _
  have := any_of_known3 (P := P) (Q := Q) hchk used step hv (fun vs w listed hlist hI hφ => ?_) ops.size (Array.replicate ops.size false) (fun _ => undef) w.drew (by simp) ?_
    ⟨hI, fun j hj => (by rw [hg] at hj; cases hj), fun j hj => (by rw [hg] at hj; cases hj), fun j hj _ => (by rcases hj with hj | hj; (rw [hg] at hj; cases hj); exact hinit j hj)⟩
  rotate_left
  · have hf := fin vs w hI hφ
    have hlen : l.length = ops.size := by rw [← hl]; simp
    have h1 := putAll_eq (ops := ops) a0 vs hd l 0 (by omega) (fun k hk => by rw [← hl]; simp)
    have h2 : putL ops (fun i => decide (i < 0)) vs a0 = a0 := by
      rw [show (fun i : Nat => decide (i < 0)) = fun _ => false from funext fun i => by simp]
      exact putL_none _ _
    rw [h2] at h1
    rw [h1] at hf
    have h3 : putL ops listed vs a0 = putL ops (fun i => decide (i < ops.size)) vs a0 := by
      unfold putL
      congr 1
      apply Array.ext_getElem?
      intro t
      simp only [Array.getElem?_mapIdx]
      cases hw : writer ops t with
      | none => rfl
      | some i =>
        have := (writer_spec hw).1
        simp [hlist i this, this]
    rw [h3]
    exact hf
  · exact Nat.le_trans (List.length_filter_le _ _) (by simp)
  · rw [h0] at this
    exact this

def Steps3 (P : Program) (ops : Array Oper) (a0 : Act) (I : (Nat → Value) → World → Prop) (φ : Nat → (Nat → Value) → World → Prop) (need anc : Nat → List Nat) (kill : Nat → Nat → Bool) : Nat → Nat → Prop
  | _, 0 => True
  | i, n + 1 => Step3 P ops .any a0 I φ need anc kill i ∧ Steps3 P ops a0 I φ need anc kill (i + 1) n

theorem Steps3.step {a0 : Act} {I : (Nat → Value) → World → Prop} {φ : Nat → (Nat → Value) → World → Prop} {need anc : Nat → List Nat} {kill : Nat → Nat → Bool} :
    ∀ (n i : Nat), Steps3 P ops a0 I φ need anc kill i n → ∀ j, i ≤ j → j < i + n → Step3 P ops .any a0 I φ need anc kill j
  | 0, i, _, j, h1, h2 => by omega
  | n + 1, i, h, j, h1, h2 => by
    by_cases e : j = i
    · subst e; exact h.1
    · exact Steps3.step n (i + 1) h.2 j (by omega) (by omega)

theorem Step3.mk {md : Region.Mode} {a0 : Act} {I : (Nat → Value) → World → Prop} {φ : Nat → (Nat → Value) → World → Prop} {need anc : Nat → List Nat} {kill : Nat → Nat → Bool} {i : Nat} {oi : Oper} (hi : ops[i]? = some oi)
    (rs : List (Nat × Nat)) (hs : ∀ cs b, oi.op ≠ .select cs b) (hl : lookB md ops i a0.tmps.size rs = true)
    (h : ∀ vs w, I vs w → (∀ j ∈ need i, φ j vs w) → SOp P ops oi (fun v w' => I (upd vs i v) w' ∧ φ i (upd vs i v) w' ∧ ∀ j, j ≠ i → kill i j = false → (anc j).contains i = false → φ j (upd vs i v) w → φ j (upd vs i v) w') (putR (rs.map fun p => (p.1, vs p.2)) a0) w) :
    Step3 P ops md a0 I φ need anc kill i := by
  intro o ho vs w hI hA
  rw [hi] at ho
  obtain rfl := Option.some.inj ho
  exact SOp.at _ (look_spec hi rs hl vs) hs (h vs w hI hA)

theorem wp_region_asrt3 {id : Nat} {a0 : Act} {w : World} (hm : P.follows .mixedOrders = true) (I : (Nat → Value) → World → Prop) (Φ : Nat → Value → List Value → World → Prop) (dep need anc : Nat → List Nat) (kill : Nat → Nat → Bool) (n : Nat)
    (l : List (Option Nat)) (hl : ops.toList.map (·.dst) = l) (hn : ops.size = n) (hchk : chk .any ops a0.tmps.size need anc kill = true) (hdep : ∀ j, ∀ d ∈ dep j, d ∈ anc j) (hI : I (fun _ => undef) w.drew)
    (hv : ∀ j, n ≤ j → anc j = []) (hinit : ∀ j, n ≤ j → Φ j undef [] w.drew) (hvd : ∀ j, n ≤ j → dep j = [])
    (steps : Steps3 P ops a0 I (asrt Φ dep) need anc kill 0 n)
    (fin : ∀ vs w, I vs w → (∀ j, (∀ k, k < n → kill k j = false) → Φ j (vs j) ((dep j).map vs) w) → Q .normal (putAll l 0 vs a0) w) : (Code.region id ops true).wp P Q a0 w := by
  subst hn
  refine wp_region_inv3 hm I (asrt Φ dep) need anc kill l hl hchk (fun j vs vs' w hv h => ?_) hI hv (fun j hj => by unfold asrt; rw [hvd j hj]; exact hinit j hj) (fun i hi => Steps3.step _ _ steps i (Nat.zero_le _) (by omega)) fin
  unfold asrt at *
  have h1 : vs' j = vs j := hv j List.mem_cons_self
  have h2 : (dep j).map vs' = (dep j).map vs := List.map_congr_left fun d hd => hv d (List.mem_cons_of_mem _ (hdep j d hd))
  rw [h1, h2]
  exact h

end
end Go.Inv2
