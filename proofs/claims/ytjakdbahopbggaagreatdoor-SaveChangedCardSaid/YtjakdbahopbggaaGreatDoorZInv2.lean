/- A region that draws its order, gone through operation by operation under assertions: each operation, once it has come up, leaves its own assertion about the values so far and the world; nobody's order is branched over; and assertions (numbers from the region's size on) that hold from the start until they are struck. Conditions: none. -/
import Derived.Orders
import Derived.Below
namespace Go.Inv2
open Go.RowKit

/-- the operation that writes slot t -/
def writer (ops : Array Oper) (t : Nat) : Option Nat := (List.range ops.size).find? fun i => decide ((ops[i]?).bind (·.dst) = some t)
/-- the frame once the listed operations have come up, with these values -/
def putL (ops : Array Oper) (listed : Nat → Bool) (vs : Nat → Value) (a : Act) : Act :=
  { a with tmps := a.tmps.mapIdx fun t u => match writer ops t with | some i => cond (listed i) (vs i) u | none => u }
/-- the frame with all values, slot by slot -/
def putAll : List (Option Nat) → Nat → (Nat → Value) → Act → Act
  | [], _, _, a => a
  | d :: l, k, vs, a => putAll l (k + 1) vs (a.put d (vs k))
def upd (vs : Nat → Value) (i : Nat) (v : Value) : Nat → Value := fun j => if j = i then v else vs j
theorem upd_self (vs : Nat → Value) (i : Nat) (v : Value) : upd vs i v i = v := by simp [upd]
theorem upd_ne (vs : Nat → Value) {i j : Nat} (v : Value) (h : j ≠ i) : upd vs i v j = vs j := by simp [upd, h]
/-- does i wait for j? -/
def waits (md : Region.Mode) (ops : Array Oper) (i j : Nat) : Bool :=
  match ops[i]? with
  | some o => o.after.any fun e => Region.binds md e && e.on == j
  | none => false

section
variable {P : Program} {ops : Array Oper} {Q : Exit → Act → World → Prop} {md : Region.Mode}

/-- what an operation must come to -/
def SOp (P : Program) (ops : Array Oper) (o : Oper) (K : Value → World → Prop) (a : Act) (w : World) : Prop :=
  match Region.wanted o (yielded ops a.tmps) with
  | true => match (execOp a.eval o).run P w with
    | .ok (.value v) w' => K v w'
    | .ok .skip w' => K undef w'
    | .ok (.enter f args) w' => Calls P f args w' fun e w'' => ∃ v, e = .returned v ∧ K v w''
    | _ => False
  | false => K undef w

theorem SOp.wpOp {i : Nat} {o : Oper} {K : Value → World → Prop} {a : Act} {w : World} (hi : ops[i]? = some o) (h : SOp P ops o K a w)
    {N : Act → World → Prop} (hN : ∀ v w', K v w' → N (a.put o.dst v) w') : wpOp P ops Q i N a w := by
  unfold Go.wpOp
  simp only [hi]
  unfold SOp at h
  cases hw : Region.wanted o (yielded ops a.tmps)
  · rw [hw] at h
    simp only [Bool.false_eq_true, if_false]
    exact hN _ _ h
  · rw [hw] at h
    simp only [if_true]
    refine .inl ?_
    unfold Oper.wp
    simp only at h
    generalize (execOp a.eval o).run P w = r at *
    cases r with
    | ok n w' =>
      cases n <;> simp only [Oper.upon] at h ⊢
      case value v => exact hN _ _ h
      case skip => exact hN _ _ h
      case enter f args =>
        refine Calls.mono h fun e w'' he => ?_
        obtain ⟨v, rfl, he⟩ := he
        exact hN _ _ he
    | halt x w' => exact h.elim

/-- the check, by the kernel: slots apart; who is looked at has come up; what an assertion speaks of has come up, and is known still -/
def chk (md : Region.Mode) (ops : Array Oper) (n : Nat) (need anc : Nat → List Nat) (kill : Nat → Nat → Bool) : Bool :=
  (List.range ops.size).all fun i =>
    match ops[i]? with
    | none => false
    | some o =>
      (match o.op with | .select _ _ => false | _ => true) &&
      (match o.dst with | some d => decide (writer ops d = some i) && decide (d < n) | none => true) &&
      ((o.looksAt ops).all fun t => match writer ops t with | some j => decide (j = i) || waits md ops i j || waits md ops j i | none => true) &&
      ((anc i).all fun d => waits md ops i d || (List.range ops.size).any fun e => waits md ops i e && (anc e).contains d) &&
      ((need i).all fun d => (decide (ops.size ≤ d) || (anc i).contains d) && (List.range ops.size).all fun k => !kill k d || decide (k = i) || (anc k).contains i) &&
      o.after.all fun e => !Region.binds md e || decide (e.on < i)

theorem writer_spec {t i : Nat} (h : writer ops t = some i) : i < ops.size ∧ (ops[i]?).bind (·.dst) = some t := by
  unfold writer at h
  have h1 := List.find?_some h
  have h2 := List.mem_of_find?_eq_some h
  exact ⟨by simpa using h2, by simpa using h1⟩

theorem putL_eval (listed : Nat → Bool) (vs : Nat → Value) (a : Act) (t : Nat) (ht : t < a.tmps.size ∨ ∀ i, writer ops t = some i → listed i = false) :
    (putL ops listed vs a).eval (.tmp t) = match writer ops t with | some i => cond (listed i) (vs i) (a.eval (.tmp t)) | none => a.eval (.tmp t) := by
  simp only [Act.eval, putL, Array.getD_eq_getD_getElem?, Array.getElem?_mapIdx]
  by_cases h : t < a.tmps.size
  · simp only [Array.getElem?_eq_getElem h, Option.map_some, Option.getD_some]
  · rw [Array.getElem?_eq_none (by omega)]
    simp only [Option.map_none, Option.getD_none]
    cases hw : writer ops t with
    | none => rfl
    | some i =>
      rcases ht with ht | ht
      · omega
      · simp only [ht i hw, cond]

theorem putL_put (listed : Nat → Bool) (vs : Nat → Value) (a : Act) (i : Nat) (o : Oper) (hi : ops[i]? = some o) (hd : ∀ d, o.dst = some d → writer ops d = some i ∧ d < a.tmps.size)
    (v : Value) : (putL ops listed vs a).put o.dst v = putL ops (fun j => decide (j = i) || listed j) (upd vs i v) a := by
  cases hdst : o.dst with
  | none =>
    simp only [Act.put]
    unfold putL
    congr 1
    apply Array.ext (by simp)
    intro t h1 h2
    simp only [Array.getElem_mapIdx]
    cases hw : writer ops t with
    | none => rfl
    | some j =>
      simp only
      have := (writer_spec hw).2
      have hji : j ≠ i := fun e => by subst e; rw [hi] at this; simp [hdst] at this
      simp [upd, hji]
  | some d =>
    obtain ⟨hw, hlt⟩ := hd d hdst
    simp only [Act.put]
    unfold putL
    congr 1
    apply Array.ext_getElem?
    intro t
    rw [Array.getElem?_setIfInBounds]
    simp only [Array.getElem?_mapIdx, Array.size_mapIdx]
    by_cases htd : d = t
    · subst htd
      simp [hw, upd, hlt]
    · rw [if_neg htd]
      cases hw' : writer ops t with
      | none => rfl
      | some j =>
        have h3 := (writer_spec hw').2
        have hji : j ≠ i := fun e => by subst e; rw [hi] at h3; simp [hdst] at h3; exact htd h3
        simp [upd, hji]

/-- STEP i -/
def Step (P : Program) (ops : Array Oper) (md : Region.Mode) (a0 : Act) (I : World → Prop) (φ : Nat → (Nat → Value) → World → Prop) (need anc : Nat → List Nat) (kill : Nat → Nat → Bool) (i : Nat) : Prop :=
  ∀ (o : Oper), ops[i]? = some o → ∀ vs w, I w → (∀ j ∈ need i, φ j vs w) →
    SOp P ops o (fun v w' => I w' ∧ φ i (upd vs i v) w' ∧ ∀ j vs', j ≠ i → kill i j = false → (anc j).contains i = false → φ j vs' w → φ j vs' w') (putL ops (fun j => waits md ops i j) vs a0) w

/-- what is known behind the listed ones -/
structure Known (ops : Array Oper) (md : Region.Mode) (I : World → Prop) (φ : Nat → (Nat → Value) → World → Prop) (anc : Nat → List Nat) (kill : Nat → Nat → Bool) (listed : Array Bool) (vs : Nat → Value) (w : World) : Prop where
  inv : I w
  anc : ∀ j, listed.getD j false = true → ∀ d ∈ anc j, listed.getD d false = true
  wait : ∀ j, listed.getD j false = true → ∀ d, waits md ops j d = true → listed.getD d false = true
  phi : ∀ j, (listed.getD j false = true ∨ ops.size ≤ j) → (∀ k, listed.getD k false = true → kill k j = false) → φ j vs w

theorem looks_mem {o : Oper} {t : Nat} (h : Operand.tmp t ∈ o.op.operands) : t ∈ o.looksAt ops := by
  unfold Oper.looksAt
  exact List.mem_append_left _ (List.mem_filterMap.2 ⟨.tmp t, by simpa using h, rfl⟩)

/-- with more listed that it does not look at, an operation does the same -/
theorem SOp.listed {o : Oper} {K : Value → World → Prop} {a0 : Act} {w : World} {vs : Nat → Value} {l l' : Nat → Bool} (hs : ∀ cs b, o.op ≠ .select cs b)
    (hl : ∀ t ∈ o.looksAt ops, ∀ j, writer ops t = some j → l j = l' j) (h : SOp P ops o K (putL ops l vs a0) w) : SOp P ops o K (putL ops l' vs a0) w := by
  have he : execOp (putL ops l' vs a0).eval o = execOp (putL ops l vs a0).eval o := execOp_congr o hs fun x hx => by
    cases x with
    | tmp t =>
      have ht := hl t (looks_mem hx)
      simp only [Act.eval, putL, Array.getD_eq_getD_getElem?, Array.getElem?_mapIdx]
      cases hw : writer ops t with
      | none => rfl
      | some j => simp only [ht j hw]
    | _ => rfl
  have hw : Region.wanted o (yielded ops (putL ops l' vs a0).tmps) = Region.wanted o (yielded ops (putL ops l vs a0).tmps) := by
    unfold Region.wanted
    cases hg : o.guard with
    | none => rfl
    | some gw =>
      obtain ⟨g, want⟩ := gw
      have hy : yielded ops (putL ops l' vs a0).tmps g = yielded ops (putL ops l vs a0).tmps g := by
        unfold yielded
        cases ht : (ops[g]?).bind (·.dst) with
        | none => rfl
        | some t =>
          have hm : t ∈ o.looksAt ops := by simp [Oper.looksAt, hg, ht]
          simp only [putL, Option.bind_some, Array.getElem?_mapIdx]
          cases hw : writer ops t with
          | none => rfl
          | some j => simp only [hl t hm j hw]
      simp only [hy]
  unfold SOp at *
  rw [he, hw]
  exact h

theorem getD_set_self {listed : Array Bool} {i : Nat} (h : i < listed.size) (d : Bool) : (listed.setIfInBounds i true).getD i d = true := by simp [h]

theorem waits_of_mem {i : Nat} {o : Oper} {e : Edge} (hi : ops[i]? = some o) (he : e ∈ o.after) (hb : Region.binds md e = true) : waits md ops i e.on = true := by
  unfold waits
  rw [hi]
  exact Array.any_eq_true'.2 ⟨e, he, by simp [hb]⟩
theorem mem_of_waits {i j : Nat} {o : Oper} (hi : ops[i]? = some o) (h : waits md ops i j = true) : ∃ e ∈ o.after, Region.binds md e = true ∧ e.on = j := by
  unfold waits at h
  rw [hi] at h
  obtain ⟨e, he, hb⟩ := Array.any_eq_true'.1 h
  simp only [Bool.and_eq_true, beq_iff_eq] at hb
  exact ⟨e, he, hb.1, hb.2⟩
theorem getD_lt {listed : Array Bool} {j : Nat} (h : listed.getD j false = true) : j < listed.size := by
  rcases Nat.lt_or_ge j listed.size with h' | h'
  · exact h'
  · simp [Array.getElem?_eq_none h'] at h
theorem getD_tf {listed : Array Bool} {j : Nat} (h : j < listed.size) : listed.getD j true = listed.getD j false := by simp [h]
theorem getD_set (listed : Array Bool) (i j : Nat) (h : i < listed.size) : (listed.setIfInBounds i true).getD j false = (decide (j = i) || listed.getD j false) := by
  by_cases hji : j = i
  · subst hji; simp [h]
  · rw [getD_set_ne false (Ne.symm hji)]; simp [hji]

theorem any_of_known {a0 : Act} {I : World → Prop} {φ : Nat → (Nat → Value) → World → Prop} {need anc : Nat → List Nat} {kill : Nat → Nat → Bool}
    (hchk : chk md ops a0.tmps.size need anc kill = true)
    (used : ∀ j vs vs' w, (∀ d ∈ j :: anc j, vs' d = vs d) → φ j vs w → φ j vs' w)
    (step : ∀ i, i < ops.size → Step P ops md a0 I φ need anc kill i)
    (hv : ∀ j, ops.size ≤ j → anc j = [])
    (fin : ∀ vs w listed, (∀ i, i < ops.size → listed i = true) → I w → (∀ j, (∀ k, k < ops.size → kill k j = false) → φ j vs w) → Q .normal (putL ops listed vs a0) w) :
    ∀ (fuel : Nat) (listed : Array Bool) (vs : Nat → Value) (w : World), listed.size = ops.size → ((List.range ops.size).filter fun j => !listed.getD j false).length ≤ fuel →
      Known ops md I φ anc kill listed vs w → wpAny P md ops Q fuel listed (putL ops (fun j => listed.getD j false) vs a0) w := by
  have hall : ∀ i (o : Oper), ops[i]? = some o → _ := fun i o hi => List.all_eq_true.1 (by unfold chk at hchk; exact hchk) i (List.mem_range.2 (Array.getElem?_eq_some_iff.1 hi).1)
  have over : ∀ (listed : Array Bool), listed.size = ops.size → Region.ready md ops listed = [] → ∀ i, i < ops.size → listed.getD i false = true := by
    intro listed hsz hr i
    induction i using Nat.strongRecOn with
    | ind i ih =>
      intro hi
      cases hl : listed.getD i false
      case true => rfl
      case false =>
        exfalso
        have hio : ops[i]? = some ops[i] := Array.getElem?_eq_getElem hi
        have h := hall i _ hio
        simp only [hio, Bool.and_eq_true, Array.all_eq_true_iff_forall_mem, Bool.or_eq_true, Bool.not_eq_true', decide_eq_true_eq] at h
        have hm : i ∈ Region.ready md ops listed := mem_ready.2 ⟨by rw [getD_tf (by omega)]; exact hl, _, hio, fun e he hb => ih e.on ((h.2 e he).resolve_left (by simp [hb])) (by have := (h.2 e he).resolve_left (by simp [hb]); omega)⟩
        rw [hr] at hm
        cases hm
  have last : ∀ (listed : Array Bool) vs w, listed.size = ops.size → (∀ i, i < ops.size → listed.getD i false = true) → Known ops md I φ anc kill listed vs w → Q .normal (putL ops (fun j => listed.getD j false) vs a0) w :=
    fun listed vs w hsz hl hk => fin vs w _ hl hk.inv fun j hkill => hk.phi j (by rcases Nat.lt_or_ge j ops.size with h | h; exact .inl (hl j h); exact .inr h) fun k hk' => hkill k (by have := getD_lt hk'; omega)
  intro fuel
  induction fuel with
  | zero =>
    intro listed vs w hsz hf hk
    have hl : ∀ i, i < ops.size → listed.getD i false = true := fun i hi => by
      cases h : listed.getD i false
      case true => rfl
      case false =>
        have : i ∈ (List.range ops.size).filter fun j => !listed.getD j false := List.mem_filter.2 ⟨List.mem_range.2 hi, by simp [h]⟩
        have hz := List.eq_nil_of_length_eq_zero (Nat.le_zero.1 hf)
        rw [hz] at this
        cases this
    refine ⟨?_, last listed vs w hsz hl hk⟩
    cases hr : Region.ready md ops listed with
    | nil => rfl
    | cons i l =>
      have hm : i ∈ Region.ready md ops listed := by rw [hr]; exact List.mem_cons_self
      obtain ⟨hu, o, ho, _⟩ := mem_ready.1 hm
      have hlt := (Array.getElem?_eq_some_iff.1 ho).1
      rw [getD_tf (by omega), hl i hlt] at hu
      cases hu
  | succ fuel ih =>
    intro listed vs w hsz hf hk
    refine ⟨fun hr => last listed vs w hsz (over listed hsz hr) hk, fun i hi => ?_⟩
    obtain ⟨hu, o, ho, hdeps⟩ := mem_ready.1 hi
    have hlt := (Array.getElem?_eq_some_iff.1 ho).1
    rw [getD_tf (by omega)] at hu
    have hw : ∀ j, waits md ops i j = true → listed.getD j false = true := fun j hj => by
      obtain ⟨e, he, hb, rfl⟩ := mem_of_waits ho hj
      exact hdeps e he hb
    have h := hall i o ho
    simp only [ho, Bool.and_eq_true] at h
    obtain ⟨⟨⟨⟨⟨h1, h2⟩, h3⟩, h4⟩, h5⟩, h6⟩ := h
    have hsel : ∀ cs b, o.op ≠ .select cs b := fun cs b e => by rw [e] at h1; cases h1
    have hanc : ∀ d ∈ anc i, listed.getD d false = true := fun d hd => by
      have := List.all_eq_true.1 h4 d hd
      simp only [Bool.or_eq_true, List.any_eq_true, Bool.and_eq_true] at this
      rcases this with h' | ⟨e, _, he, hc⟩
      · exact hw d h'
      · exact hk.anc e (hw e he) d (by simpa using hc)
    have hphi : ∀ j ∈ need i, φ j vs w := fun j hj => by
      have h5j := List.all_eq_true.1 h5 j hj
      rw [Bool.and_eq_true] at h5j
      refine hk.phi j ((Bool.or_eq_true _ _ ▸ h5j.1).elim (fun h => .inr (of_decide_eq_true h)) fun h => .inl (hanc j (by simpa using h))) fun k hkl => ?_
      have h' := List.all_eq_true.1 h5j.2 k (List.mem_range.2 (by have := getD_lt hkl; omega))
      simp only [Bool.or_eq_true, Bool.not_eq_true', decide_eq_true_eq] at h'
      rcases h' with (h' | rfl) | h'
      · exact h'
      · rw [hu] at hkl; cases hkl
      · have := hk.anc k hkl i (by simpa using h')
        rw [hu] at this; cases this
    have hs := step i hlt o ho vs w hk.inv hphi
    have hs' := SOp.listed (l' := fun j => listed.getD j false) hsel (fun t ht j hj => by
      have h' := List.all_eq_true.1 h3 t ht
      simp only [hj, Bool.or_eq_true, decide_eq_true_eq] at h'
      cases hwj : waits md ops i j
      · rw [hwj] at h'
        show false = listed.getD j false
        rcases h' with (rfl | h') | h'
        · exact hu.symm
        · cases h'
        · cases hl : listed.getD j false
          · rfl
          · have := hk.wait j hl i h'
            rw [hu] at this; cases this
      · exact (hw j hwj).symm) hs
    refine SOp.wpOp ho hs' fun v w' ⟨hI, hφ, hkeep⟩ => ?_
    have hdd : ∀ d, o.dst = some d → writer ops d = some i ∧ d < a0.tmps.size := fun d hd => by
      simp only [hd, Bool.and_eq_true, decide_eq_true_eq] at h2
      exact h2
    rw [putL_put _ _ _ i o ho hdd]
    have hset : (fun j => decide (j = i) || listed.getD j false) = fun j => (listed.setIfInBounds i true).getD j false := funext fun j => (getD_set listed i j (by omega)).symm
    rw [hset]
    refine ih (listed.setIfInBounds i true) (upd vs i v) w' (by simpa using hsz) ?_ ?_
    · -- one fewer
      have hlen : ((List.range ops.size).filter fun j => !(listed.setIfInBounds i true).getD j false).length < ((List.range ops.size).filter fun j => !listed.getD j false).length := by
        have e : ((List.range ops.size).filter fun j => !(listed.setIfInBounds i true).getD j false) = ((List.range ops.size).filter fun j => !listed.getD j false).filter fun j => !decide (j = i) := by
          rw [List.filter_filter]
          refine List.filter_congr fun j _ => ?_
          rw [getD_set listed i j (by omega)]
          cases decide (j = i) <;> cases listed.getD j false <;> rfl
        rw [e]
        exact List.length_filter_lt_length_iff_exists.2 ⟨i, List.mem_filter.2 ⟨List.mem_range.2 hlt, by simp [hu]⟩, by simp⟩
      omega
    · have hin : ∀ j, (listed.setIfInBounds i true).getD j false = true → j = i ∨ (j ≠ i ∧ listed.getD j false = true) := fun j hj => by
        rw [getD_set listed i j (by omega)] at hj
        by_cases hji : j = i
        · exact .inl hji
        · exact .inr ⟨hji, by simpa [hji] using hj⟩
      have hout : ∀ j, listed.getD j false = true → (listed.setIfInBounds i true).getD j false = true := fun j hj => by
        rw [getD_set listed i j (by omega), hj, Bool.or_true]
      refine ⟨hI, fun j hj d hd => ?_, fun j hj d hd => ?_, fun j hj hkill => ?_⟩
      · rcases hin j hj with rfl | ⟨_, hl⟩
        · exact hout d (hanc d hd)
        · exact hout d (hk.anc j hl d hd)
      · rcases hin j hj with rfl | ⟨_, hl⟩
        · exact hout d (hw d hd)
        · exact hout d (hk.wait j hl d hd)
      · have hj' : j = i ∨ (j ≠ i ∧ (listed.getD j false = true ∨ ops.size ≤ j)) := by
          rcases hj with hj | hj
          · exact (hin j hj).imp id fun h => ⟨h.1, .inl h.2⟩
          · exact .inr ⟨by omega, .inr hj⟩
        rcases hj' with rfl | ⟨hne, hl⟩
        · exact hφ
        · have hself : ∀ d ∈ j :: anc j, d ≠ i := fun d hd => by
            rcases hl with hl | hl
            · rcases List.mem_cons.1 hd with rfl | hd
              · exact hne
              · intro e
                have := hk.anc j hl d hd
                rw [e, hu] at this
                cases this
            · rw [hv j hl] at hd
              rcases List.mem_cons.1 hd with rfl | hd
              · exact hne
              · cases hd
          have hsi : (listed.setIfInBounds i true).getD i false = true := by rw [getD_set listed i i (by omega)]; simp
          refine hkeep j _ hne (hkill i hsi) ?_ (used j vs _ w (fun d hd => ?_) (hk.phi j hl fun k hk' => hkill k (hout k hk')))
          · cases hc : (anc j).contains i
            · rfl
            · exact absurd rfl (hself i (List.mem_cons_of_mem _ (by simpa using hc)))
          · exact upd_ne _ _ (hself d hd)

/-- all slots written: one put behind the other -/
theorem putAll_eq (a0 : Act) (vs : Nat → Value) (hd : ∀ i o d, ops[i]? = some o → o.dst = some d → writer ops d = some i ∧ d < a0.tmps.size) :
    ∀ (l : List (Option Nat)) (n : Nat), n + l.length = ops.size → (∀ k, k < l.length → l[k]? = (ops[n + k]?).map (·.dst)) →
    putAll l n vs (putL ops (fun i => decide (i < n)) vs a0) = putL ops (fun i => decide (i < ops.size)) vs a0
  | [], n, h, _ => by
    obtain rfl : n = ops.size := by simpa using h
    rfl
  | d :: l, n, h, hk => by
    have hn : n < ops.size := by simp at h; omega
    have ho : ops[n]? = some ops[n] := Array.getElem?_eq_getElem hn
    have hdst : ops[n].dst = d := by
      have := hk 0 (by simp)
      rw [Nat.add_zero, ho] at this
      simpa using this.symm
    unfold putAll
    have hp := putL_put (fun i => decide (i < n)) vs a0 n ops[n] ho (fun e h => hd n _ e ho h) (vs n)
    have hup : upd vs n (vs n) = vs := funext fun j => by by_cases h : j = n <;> simp [upd, h]
    have hls : (fun j => decide (j = n) || decide (j < n)) = fun j => decide (j < n + 1) := funext fun j => by
      by_cases h : j = n
      · subst h; simp
      · have : (j < n) ↔ (j < n + 1) := by omega
        simp [h, this]
    rw [← hdst, hp, hup, hls]
    exact putAll_eq a0 vs hd l (n + 1) (by simp at h; omega) (fun k hk' => by
      have := hk (k + 1) (by simp; omega)
      rw [show n + 1 + k = n + (k + 1) by omega, ← this]
      simp)
theorem putL_none (vs : Nat → Value) (a : Act) : putL ops (fun _ => false) vs a = a := by
  unfold putL
  have : (a.tmps.mapIdx fun t u => match writer ops t with | some i => cond false (vs i) u | none => u) = a.tmps := by
    apply Array.ext_getElem?
    intro t
    rw [Array.getElem?_mapIdx]
    cases a.tmps[t]? with
    | none => rfl
    | some u => cases writer ops t <;> rfl
  rw [this]

/-- THE LAW -/
theorem wp_region_inv {id : Nat} {a0 : Act} {w : World} (hm : P.follows .mixedOrders = true) (I : World → Prop) (φ : Nat → (Nat → Value) → World → Prop) (need anc : Nat → List Nat) (kill : Nat → Nat → Bool)
    (l : List (Option Nat)) (hl : ops.toList.map (·.dst) = l) (hchk : chk .any ops a0.tmps.size need anc kill = true)
    (used : ∀ j vs vs' w, (∀ d ∈ j :: anc j, vs' d = vs d) → φ j vs w → φ j vs' w) (hI : I w.drew) (hv : ∀ j, ops.size ≤ j → anc j = []) (hinit : ∀ j, ops.size ≤ j → φ j (fun _ => undef) w.drew)
    (step : ∀ i, i < ops.size → Step P ops .any a0 I φ need anc kill i)
    (fin : ∀ vs w, I w → (∀ j, (∀ k, k < ops.size → kill k j = false) → φ j vs w) → Q .normal (putAll l 0 vs a0) w) : (Code.region id ops true).wp P Q a0 w := by
  refine wp_region_any hm ?_
  have hall : ∀ i (o : Oper), ops[i]? = some o → _ := fun i o hi => List.all_eq_true.1 (by have := hchk; unfold chk at this; exact this) i (List.mem_range.2 (Array.getElem?_eq_some_iff.1 hi).1)
  have hd : ∀ i o d, ops[i]? = some o → o.dst = some d → writer ops d = some i ∧ d < a0.tmps.size := fun i o d hi hdst => by
    have h := hall i o hi
    simp only [hi, Bool.and_eq_true] at h
    have h2 := h.1.1.1.1.2
    simp only [hdst, Bool.and_eq_true, decide_eq_true_eq] at h2
    exact h2
  have hg : ∀ j, (Array.replicate ops.size false).getD j false = false := fun j => by
    by_cases h : j < ops.size <;> simp [h]
  have h0 : putL ops (fun j => (Array.replicate ops.size false).getD j false) (fun _ => undef) a0 = a0 := by
    rw [show (fun j => (Array.replicate ops.size false).getD j false) = fun _ => false from funext hg]
    exact putL_none _ _
  have := any_of_known (P := P) (Q := Q) hchk used step hv (fun vs w listed hlist hI hφ => ?_) ops.size (Array.replicate ops.size false) (fun _ => undef) w.drew (by simp) ?_
    ⟨hI, fun j hj => (by rw [hg] at hj; cases hj), fun j hj => (by rw [hg] at hj; cases hj), fun j hj _ => (by rcases hj with hj | hj; (rw [hg] at hj; cases hj); exact hinit j hj)⟩
  rotate_left
  · have hf := fin vs w hI hφ
    have hlen : l.length = ops.size := by rw [← hl]; simp
    have h1 := putAll_eq (ops := ops) a0 vs hd l 0 (by omega) (fun k hk => by rw [← hl]; simp)
    have h2 : putL ops (fun i => decide (i < 0)) vs a0 = a0 := by
      rw [show (fun i : Nat => decide (i < 0)) = fun _ => false from funext fun i => by simp]
      exact putL_none _ _
    rw [h2] at h1
    rw [h1] at hf
    have h3 : putL ops listed vs a0 = putL ops (fun i => decide (i < ops.size)) vs a0 := by
      unfold putL
      congr 1
      apply Array.ext_getElem?
      intro t
      simp only [Array.getElem?_mapIdx]
      cases hw : writer ops t with
      | none => rfl
      | some i =>
        have := (writer_spec hw).1
        simp [hlist i this, this]
    rw [h3]
    exact hf
  · exact Nat.le_trans (List.length_filter_le _ _) (by simp)
  · rw [h0] at this
    exact this

/-- some slots laid -/
def putR : List (Nat × Value) → Act → Act
  | [], a => a
  | (t, u) :: l, a => putR l (a.put (some t) u)
/-- the operation is looked at in a frame that holds what it looks at -/
theorem SOp.at {o : Oper} {K : Value → World → Prop} {a0 : Act} {w : World} {vs : Nat → Value} {l : Nat → Bool} (rs : List (Nat × Value))
    (h : (o.looksAt ops).map (fun t => (putL ops l vs a0).tmps[t]?) = (o.looksAt ops).map fun t => (putR rs a0).tmps[t]?) (hs : ∀ cs b, o.op ≠ .select cs b)
    (hx : SOp P ops o K (putR rs a0) w) : SOp P ops o K (putL ops l vs a0) w := by
  have hl : ∀ t ∈ o.looksAt ops, (putL ops l vs a0).tmps[t]? = (putR rs a0).tmps[t]? := List.map_inj_left.1 h
  have he : execOp (putL ops l vs a0).eval o = execOp (putR rs a0).eval o := execOp_congr o hs fun x hx => by
    cases x with
    | tmp t =>
      have := hl t (looks_mem hx)
      simp only [Act.eval, Array.getD_eq_getD_getElem?, this]
    | _ => rfl
  have hw : Region.wanted o (yielded ops (putL ops l vs a0).tmps) = Region.wanted o (yielded ops (putR rs a0).tmps) := by
    unfold Region.wanted
    cases hg : o.guard with
    | none => rfl
    | some gw =>
      obtain ⟨g, want⟩ := gw
      have hy : yielded ops (putL ops l vs a0).tmps g = yielded ops (putR rs a0).tmps g := by
        unfold yielded
        cases ht : (ops[g]?).bind (·.dst) with
        | none => rfl
        | some t => simp only [Option.bind_some, hl t (by simp [Oper.looksAt, hg, ht])]
      simp only [hy]
  unfold SOp at *
  rw [he, hw]
  exact hx
theorem SOp.val {o : Oper} {K : Value → World → Prop} {a : Act} {w w' : World} {v : Value} (hw : Region.wanted o (yielded ops a.tmps) = true) (hr : (execOp a.eval o).run P w = .ok (.value v) w') (hK : K v w') : SOp P ops o K a w := by
  unfold SOp
  rw [hw]
  simp only [hr]
  exact hK
theorem SOp.done {o : Oper} {K : Value → World → Prop} {a : Act} {w w' : World} (hw : Region.wanted o (yielded ops a.tmps) = true) (hr : (execOp a.eval o).run P w = .ok .skip w') (hK : K undef w') : SOp P ops o K a w := by
  unfold SOp
  rw [hw]
  simp only [hr]
  exact hK
theorem SOp.enter {o : Oper} {K : Value → World → Prop} {a : Act} {w w' : World} {f : FuncId} {args : Array Value} (hw : Region.wanted o (yielded ops a.tmps) = true) (hr : (execOp a.eval o).run P w = .ok (.enter f args) w')
    (hc : Calls P f args w' fun e w'' => ∃ v, e = .returned v ∧ K v w'') : SOp P ops o K a w := by
  unfold SOp
  rw [hw]
  simp only [hr]
  exact hc
theorem SOp.skipped {o : Oper} {K : Value → World → Prop} {a : Act} {w : World} (hw : Region.wanted o (yielded ops a.tmps) = false) (hK : K undef w) : SOp P ops o K a w := by
  unfold SOp
  rw [hw]
  exact hK

/-- the steps, from number i on, n of them -/
def Steps (P : Program) (ops : Array Oper) (a0 : Act) (I : World → Prop) (φ : Nat → (Nat → Value) → World → Prop) (need anc : Nat → List Nat) (kill : Nat → Nat → Bool) : Nat → Nat → Prop
  | _, 0 => True
  | i, n + 1 => Step P ops .any a0 I φ need anc kill i ∧ Steps P ops a0 I φ need anc kill (i + 1) n
theorem Steps.step {a0 : Act} {I : World → Prop} {φ : Nat → (Nat → Value) → World → Prop} {need anc : Nat → List Nat} {kill : Nat → Nat → Bool} :
    ∀ (n i : Nat), Steps P ops a0 I φ need anc kill i n → ∀ j, i ≤ j → j < i + n → Step P ops .any a0 I φ need anc kill j
  | 0, i, _, j, h1, h2 => by omega
  | n + 1, i, h, j, h1, h2 => by
    by_cases e : j = i
    · subst e; exact h.1
    · exact Steps.step n (i + 1) h.2 j (by omega) (by omega)
theorem putR_size : ∀ (l : List (Nat × Value)) (a : Act), (putR l a).tmps.size = a.tmps.size
  | [], _ => rfl
  | (t, u) :: l, a => by rw [putR, putR_size l]; simp [Act.put]
theorem putR_out : ∀ (l : List (Nat × Value)) (a : Act) (t : Nat), (∀ p ∈ l, p.1 ≠ t) → (putR l a).tmps[t]? = a.tmps[t]?
  | [], _, _, _ => rfl
  | (s, u) :: l, a, t, h => by
    rw [putR, putR_out l _ t fun p hp => h p (List.mem_cons_of_mem _ hp)]
    have : s ≠ t := h (s, u) List.mem_cons_self
    simp [Act.put, Array.getElem?_setIfInBounds_ne this]
theorem putR_in : ∀ (l : List (Nat × Value)) (a : Act) (t : Nat) (v : Value), t < a.tmps.size → (∃ p ∈ l, p.1 = t) → (∀ p ∈ l, p.1 = t → p.2 = v) → (putR l a).tmps[t]? = some v
  | [], _, _, _, _, h, _ => by obtain ⟨p, hp, _⟩ := h; cases hp
  | (s, u) :: l, a, t, v, ht, h, hv => by
    rw [putR]
    by_cases hl : ∃ p ∈ l, p.1 = t
    · exact putR_in l _ t v (by simpa [Act.put] using ht) hl fun p hp => hv p (List.mem_cons_of_mem _ hp)
    · rw [putR_out l _ t fun p hp e => hl ⟨p, hp, e⟩]
      obtain ⟨p, hp, e⟩ := h
      rcases List.mem_cons.1 hp with rfl | hp
      · have e' : s = t := e
        have hu : u = v := hv (s, u) List.mem_cons_self e'
        subst e'
        subst hu
        simp [Act.put, ht]
      · exact absurd ⟨p, hp, e⟩ hl
/-- the check, by the kernel: the slots that an operation looks at, and who wrote them -/
def lookB (md : Region.Mode) (ops : Array Oper) (i n : Nat) (rs : List (Nat × Nat)) : Bool :=
  match ops[i]? with
  | none => false
  | some o => (o.looksAt ops).all fun t => match writer ops t with
    | some j => cond (waits md ops i j) (decide (t < n) && rs.any (fun p => p.1 == t) && rs.all fun p => p.1 != t || p.2 == j) (rs.all fun p => p.1 != t)
    | none => rs.all fun p => p.1 != t
theorem look_spec {i : Nat} {a0 : Act} {o : Oper} (hi : ops[i]? = some o) (rs : List (Nat × Nat)) (h : lookB md ops i a0.tmps.size rs = true) (vs : Nat → Value) :
    (o.looksAt ops).map (fun t => (putL ops (fun j => waits md ops i j) vs a0).tmps[t]?) = (o.looksAt ops).map fun t => (putR (rs.map fun p => (p.1, vs p.2)) a0).tmps[t]? := by
  refine List.map_inj_left.2 fun t ht => ?_
  unfold lookB at h
  rw [hi] at h
  have h1 := List.all_eq_true.1 h t ht
  have out : (rs.all fun p => p.1 != t) = true → (putR (rs.map fun p => (p.1, vs p.2)) a0).tmps[t]? = a0.tmps[t]? := fun h2 => putR_out _ _ _ fun p hp => by
    obtain ⟨q, hq, rfl⟩ := List.mem_map.1 hp
    have := List.all_eq_true.1 h2 q hq
    simpa using this
  have e : (putL ops (fun j => waits md ops i j) vs a0).tmps[t]? = (a0.tmps[t]?).map fun u => match writer ops t with | some j => cond (waits md ops i j) (vs j) u | none => u := by
    simp only [putL, Array.getElem?_mapIdx]
  rw [e]
  cases hw : writer ops t with
  | none =>
    rw [hw] at h1
    rw [out h1]
    cases a0.tmps[t]? <;> rfl
  | some j =>
    rw [hw] at h1
    simp only at h1 ⊢
    cases hwt : waits md ops i j
    · rw [hwt] at h1
      rw [out h1]
      cases a0.tmps[t]? <;> rfl
    · rw [hwt] at h1
      simp only [cond, Bool.and_eq_true, decide_eq_true_eq, List.any_eq_true, beq_iff_eq, List.all_eq_true, Bool.or_eq_true, bne_iff_ne] at h1
      obtain ⟨⟨h2, q, hq, h3⟩, h4⟩ := h1
      rw [putR_in _ _ t (vs j) h2 ⟨_, List.mem_map.2 ⟨q, hq, rfl⟩, h3⟩ fun p hp he => by
        obtain ⟨q', hq', rfl⟩ := List.mem_map.1 hp
        rcases h4 q' hq' with h5 | h5
        · exact absurd he h5
        · show vs q'.2 = vs j
          rw [h5]]
      rw [Array.getElem?_eq_getElem h2]
      rfl
/-- a step, at the operation as it is written -/
theorem Step.mk {md : Region.Mode} {a0 : Act} {I : World → Prop} {φ : Nat → (Nat → Value) → World → Prop} {need anc : Nat → List Nat} {kill : Nat → Nat → Bool} {i : Nat} {oi : Oper} (hi : ops[i]? = some oi)
    (rs : List (Nat × Nat)) (hs : ∀ cs b, oi.op ≠ .select cs b) (hl : lookB md ops i a0.tmps.size rs = true)
    (h : ∀ vs w, I w → (∀ j ∈ need i, φ j vs w) → SOp P ops oi (fun v w' => I w' ∧ φ i (upd vs i v) w' ∧ ∀ j vs', j ≠ i → kill i j = false → (anc j).contains i = false → φ j vs' w → φ j vs' w') (putR (rs.map fun p => (p.1, vs p.2)) a0) w) :
    Step P ops md a0 I φ need anc kill i := by
  intro o ho vs w hI hA
  rw [hi] at ho
  obtain rfl := Option.some.inj ho
  exact SOp.at _ (look_spec hi rs hl vs) hs (h vs w hI hA)
/-- an assertion speaks of its own value, and of those of some that came up ahead -/
def asrt (Φ : Nat → Value → List Value → World → Prop) (dep : Nat → List Nat) : Nat → (Nat → Value) → World → Prop := fun j vs w => Φ j (vs j) ((dep j).map vs) w
/-- THE LAW -/
theorem wp_region_asrt {id : Nat} {a0 : Act} {w : World} (hm : P.follows .mixedOrders = true) (I : World → Prop) (Φ : Nat → Value → List Value → World → Prop) (dep need anc : Nat → List Nat) (kill : Nat → Nat → Bool) (n : Nat)
    (l : List (Option Nat)) (hl : ops.toList.map (·.dst) = l) (hn : ops.size = n) (hchk : chk .any ops a0.tmps.size need anc kill = true) (hdep : ∀ j, ∀ d ∈ dep j, d ∈ anc j) (hI : I w.drew)
    (hv : ∀ j, n ≤ j → anc j = []) (hinit : ∀ j, n ≤ j → Φ j undef [] w.drew) (hvd : ∀ j, n ≤ j → dep j = [])
    (steps : Steps P ops a0 I (asrt Φ dep) need anc kill 0 n)
    (fin : ∀ vs w, I w → (∀ j, (∀ k, k < n → kill k j = false) → Φ j (vs j) ((dep j).map vs) w) → Q .normal (putAll l 0 vs a0) w) : (Code.region id ops true).wp P Q a0 w := by
  subst hn
  refine wp_region_inv hm I (asrt Φ dep) need anc kill l hl hchk (fun j vs vs' w hv h => ?_) hI hv (fun j hj => by unfold asrt; rw [hvd j hj]; exact hinit j hj) (fun i hi => Steps.step _ _ steps i (Nat.zero_le _) (by omega)) fin
  unfold asrt at *
  have h1 : vs' j = vs j := hv j List.mem_cons_self
  have h2 : (dep j).map vs' = (dep j).map vs := List.map_congr_left fun d hd => hv d (List.mem_cons_of_mem _ (hdep j d hd))
  rw [h1, h2]
  exact h
end
end Go.Inv2
