/- The evaluator's operations that ask no memory are the model's. Conditions: none. -/
import Derived.Test.YtdnelpmolenkoaaDoorEv3
import Derived.Laws.Tables
import Derived.Laws.Pointers
import Derived.Laws.Strings
import Derived.Laws.Cover3
import Derived.Lib.LazyBuf
namespace Go.Ev
open Go.RowKit

/-- the operands of an operation stand for what the frame holds -/
def Opd (γ : G) (fr : Fr) (a : Act) (xs : Array Operand) : Prop := ∀ x ∈ xs, ∀ v, opnd fr x = some v → R γ v (a.eval x)
/-- it yields that, and leaves the world -/
def Gives (P : Program) (γ : G) (a : Act) (o : Oper) (v : AV) : Prop := ∃ c, (∀ w, (execOp a.eval o).run P w = .ok (.value c) w) ∧ R γ v c

section
variable {P : Program} {γ : G} {fr : Fr} {a : Act} {o : Oper}

theorem R_lit {c y : Value} (h : R γ (.lit c) y) : y = c := by cases h; rfl
theorem gen_sound {v : AV} (hs : ∀ cs b, o.op ≠ .select cs b) (h : gen P fr o = some v) (hx : Opd γ fr a o.op.operands) : Gives P γ a o v := by
  unfold gen at h
  obtain ⟨hall, h⟩ := sel_some h
  split at h
  · rename_i u hu
    injection h with h
    subst h
    refine ⟨u, fun w => ?_, .lit u⟩
    have he : execOp a.eval o = execOp (litOf fr) o := execOp_congr o hs fun x hxm => by
      have h1 := List.all_eq_true.1 hall x (by simpa using hxm)
      unfold isLit at h1
      unfold litOf
      split at h1
      · rename_i u' hu'
        have := hx x hxm _ hu'
        generalize a.eval x = y at this ⊢
        cases this
        rfl
      · cases h1
    rw [he]
    exact pureVal_run P _ _ hu w
  · cases h

theorem opnds_R : ∀ (l : List Operand) (vs : List AV), opnds fr l = some vs → (∀ x ∈ l, ∀ v, opnd fr x = some v → R γ v (a.eval x)) → Rs γ vs (l.map a.eval)
  | [], vs, h, _ => by
    have : vs = [] := by
      have h' : some ([] : List AV) = some vs := h
      injection h' with h'
      exact h'.symm
    subst this
    exact Rs.nil γ
  | x :: l, vs, h, hx => by
    have h' : (bindO (opnd fr x) fun v => bindO (opnds fr l) fun vs => some (v :: vs)) = some vs := h
    obtain ⟨v, hv, h'⟩ := bindO_some h'
    obtain ⟨us, hu, h'⟩ := bindO_some h'
    injection h' with h'
    subst h'
    exact (opnds_R l us hu fun y hy => hx y (by simp [hy])).cons (hx x (by simp) v hv)

theorem natOf_some {v : AV} {n : Nat} (h : natOf v = some n) : ∃ k, v = .lit (.int k (n : Int)) := by
  unfold natOf at h
  split at h
  · injection h with h; subst h; exact ⟨_, rfl⟩
  · cases h
theorem natOf_R {v : AV} {n : Nat} {c : Value} (h : natOf v = some n) (hr : R γ v c) : ∃ k, c = .int k (n : Int) := by
  obtain ⟨k, rfl⟩ := natOf_some h
  cases hr
  exact ⟨k, rfl⟩
theorem sizeOf_some {t : TypeId} {n : Nat} (h : sizeOf? P t = some n) : ∃ i, P.info? t = some i ∧ i.size = n := by
  unfold sizeOf? at h
  split at h
  · rename_i i hi; injection h with h; exact ⟨i, hi, h⟩
  · cases h
theorem run_sizeOf {t : TypeId} {n : Nat} (h : sizeOf? P t = some n) (w : World) : (sizeOf t).run P w = .ok n w := by
  obtain ⟨i, hi, rfl⟩ := sizeOf_some h
  simp [sizeOf, typeInfo, hi]
theorem zero_some {t : TypeId} {z : Value} (h : zero? P t = some z) : ∃ i, P.info? t = some i ∧ i.zero = some z := by
  unfold zero? at h
  split at h
  · rename_i i hi; exact ⟨i, hi, h⟩
  · cases h
theorem elem_some {t e : TypeId} (h : elem? P t = some e) : P.underlying t = some (.slice e) := by
  unfold elem? at h
  split at h
  · rename_i e' he; injection h with h; subst h; exact he
  · cases h
theorem run_isAgg {t : TypeId} {b : Bool} (h : isAgg? P t = some b) (w : World) : (isAgg t).run P w = .ok b w := by
  unfold isAgg? at h
  cases hd : P.underlying t with
  | none => rw [hd] at h; cases h
  | some d =>
    rw [hd] at h
    cases d <;> (simp only at h; injection h with h; subst h; simp [isAgg, run_underlying hd])

-- parts of structs and arrays

def setC (cs : List Value) (off : Nat) : List Value → List Value
  | [] => cs
  | v :: vs => setC (cs.set off v) (off + 1) vs
theorem setC_R : ∀ (vs : List AV) (cv : List Value) (l : List AV) (cs : List Value) (off : Nat), Rs γ vs cv → Rs γ l cs → Rs γ (setCells l off vs) (setC cs off cv)
  | [], cv, l, cs, off, hv, hl => by rw [hv.nil_inv]; exact hl
  | v :: vs, cv, l, cs, off, hv, hl => by
    obtain ⟨c, r, rfl, hc, hr⟩ := hv.cons_inv
    exact setC_R vs r _ _ _ hr (hl.set off hc)
theorem foldl_setC (off : Nat) : ∀ (l : List Value) (k : Nat) (cs : List Value),
    (l.zipIdx k).foldl (fun (r : Array Value) (p : Value × Nat) => r.setIfInBounds (off + p.2) p.1) ⟨cs⟩ = ⟨setC cs (off + k) l⟩
  | [], _, _ => rfl
  | v :: l, k, cs => by
    simp only [List.zipIdx_cons, List.foldl_cons, setC]
    have : (Array.mk cs).setIfInBounds (off + k) v = ⟨cs.set (off + k) v⟩ := by
      apply Array.ext'
      simp
    rw [this]
    exact foldl_setC off l (k + 1) _

def PR (γ : G) (ps : List (Nat × AV)) (cps : List (Nat × Value)) : Prop := ps.map (·.1) = cps.map (·.1) ∧ Rs γ (ps.map (·.2)) (cps.map (·.2))
theorem fillA_R (place : Nat → Option (Nat × Nat)) : ∀ (ps : List (Nat × AV)) (cps : List (Nat × Value)) (l : List AV) (cs : List Value) (r : List AV), fillA place l ps = some r → PR γ ps cps → Rs γ l cs →
    ∃ cr, Instr.fill place ⟨cs⟩ cps = some ⟨cr⟩ ∧ Rs γ r cr
  | [], cps, l, cs, r, h, hp, hl => by
    have : cps = [] := by
      have := hp.1
      cases cps with
      | nil => rfl
      | cons _ _ => simp at this
    subst this
    simp only [fillA] at h
    injection h with h
    subst h
    exact ⟨cs, rfl, hl⟩
  | (i, v) :: ps, cps, l, cs, r, h, hp, hl => by
    cases cps with
    | nil => have := hp.1; simp at this
    | cons q cps =>
      obtain ⟨j, c⟩ := q
      obtain ⟨h1, h2⟩ := hp
      simp only [List.map_cons, List.cons.injEq] at h1
      obtain ⟨rfl, h1⟩ := h1
      obtain ⟨c', r', hcr, hc, hr⟩ := h2.cons_inv
      simp only [List.map_cons, List.cons.injEq] at hcr
      obtain ⟨rfl, rfl⟩ := hcr
      simp only [fillA] at h
      split at h
      · cases h
      · rename_i off size hpl
        obtain ⟨hcond, h⟩ := sel_some h
        simp only [Bool.and_eq_true, Nat.beq_eq, Nat.ble_eq] at hcond
        have hcells := cellsOf_R hc
        have hlen : c.cells.size = (cellsOf v).length := by rw [hcells.1]; simp
        obtain ⟨cr, hcr, hR⟩ := fillA_R place ps cps _ (setC cs off c.cells.toList) r h ⟨h1, hr⟩ (setC_R _ _ _ _ _ hcells hl)
        refine ⟨cr, ?_, hR⟩
        have hll := hl.1
        simp only [Instr.fill, hpl]
        have hb : (decide (c.cells.size ≠ size) || decide (off + c.cells.size > (Array.mk cs).size)) = false := by
          simp only [Bool.or_eq_false_iff, decide_eq_false_iff_not, ne_eq, Decidable.not_not, List.size_toArray]
          omega
        rw [if_neg (by rw [hb]; simp)]
        have hf : c.cells.zipIdx.foldl (fun cs (p : Value × Nat) => cs.setIfInBounds (off + p.2) p.1) (Array.mk cs) = ⟨setC cs off c.cells.toList⟩ := by
          have := foldl_setC off c.cells.toList 0 cs
          rw [← Array.foldl_toList, Array.toList_zipIdx]
          exact this
        rw [← hcr, ← hf]
theorem opParts_R : ∀ (ps : List (Nat × Operand)) (qs : List (Nat × AV)), opParts fr ps = some qs → (∀ x ∈ ps.map (·.2), ∀ v, opnd fr x = some v → R γ v (a.eval x)) → PR γ qs (ps.map fun p => (p.1, a.eval p.2))
  | [], qs, h, _ => by
    simp only [opParts] at h
    injection h with h
    subst h
    exact ⟨rfl, Rs.nil γ⟩
  | (i, x) :: ps, qs, h, hx => by
    simp only [opParts] at h
    split at h
    · cases h
    · rename_i v hv
      split at h
      · cases h
      · rename_i us hu
        injection h with h
        subst h
        obtain ⟨h1, h2⟩ := opParts_R ps us hu fun y hy => hx y (by simp at hy ⊢; exact .inr hy)
        exact ⟨by simp [h1], h2.cons (hx x (by simp) v hv)⟩
theorem placesOf_some : ∀ (fs : List Field) (pl : List (Nat × Nat)), placesOf P fs = some pl → fs.mapM (fun f => (P.info? f.type).map fun i => (f.offset, i.size)) = some pl
  | [], pl, h => by simp only [placesOf] at h; injection h with h; subst h; rfl
  | f :: fs, pl, h => by
    simp only [placesOf] at h
    split at h
    · cases h
    · rename_i n hn
      split at h
      · cases h
      · rename_i r hr
        injection h with h
        subst h
        obtain ⟨i, hi, rfl⟩ := sizeOf_some hn
        simp [List.mapM_cons, hi, placesOf_some fs r hr]
theorem partOf_R {t : TypeId} {cs : List AV} {ccs : List Value} {off : Nat} {v : AV} (h : partOf P t cs off = some v) (hr : Rs γ cs ccs) : ∃ c, (∀ w, (part t ⟨ccs⟩ off).run P w = .ok c w) ∧ R γ v c := by
  unfold partOf at h
  split at h
  · rename_i ha
    split at h
    · rename_i n hn
      injection h with h
      subst h
      refine ⟨.agg ⟨(ccs.drop off).take n⟩, fun w => ?_, mkAgg_R ((hr.drop off).take n)⟩
      simp [part, run_isAgg ha, run_sizeOf hn]
    · cases h
  · rename_i ha
    obtain ⟨c, hc, hR⟩ := hr.at_ h
    refine ⟨c, fun w => ?_, hR⟩
    have : (Array.mk ccs)[off]? = some c := by simpa using hc
    simp [part, run_isAgg ha, this]
  · cases h
end
end Go.Ev
