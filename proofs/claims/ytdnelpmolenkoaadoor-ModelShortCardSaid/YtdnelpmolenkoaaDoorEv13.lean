/- A region that draws its order: the trace of the text's order, place by place; blocks that wait. Conditions: none. -/
import Derived.Test.YtdnelpmolenkoaaDoorEv12
namespace Go.Ev
open Go.RowKit

section
variable {P : Program} {rec : Rec} {os : Array Oper} {ms : List Nat} {base : Nat}

/-- heap and waiting blocks ahead of the t-th operation -/
def stAt (ms : List Nat) : List R1 → Nat → H × Pend → Nat → H × Pend
  | _, _, s, 0 => s
  | [], _, s, _ + 1 => s
  | r :: rs, i, s, t + 1 => stAt ms rs (i + 1) (nxt ms r i s) t
theorem stAt_succ : ∀ (rs : List R1) (i : Nat) (s : H × Pend) (t : Nat) (r : R1), rs[t]? = some r → stAt ms rs i s (t + 1) = nxt ms r (i + t) (stAt ms rs i s t)
  | [], i, s, t, r, h => by simp at h
  | r0 :: rs, i, s, 0, r, h => by
    simp at h
    subst h
    simp [stAt]
  | r0 :: rs, i, s, t + 1, r, h => by
    rw [List.getElem?_cons_succ] at h
    have := stAt_succ rs (i + 1) (nxt ms r0 i s) t r h
    rw [show i + 1 + t = i + (t + 1) from by omega] at this
    simp only [stAt] at this ⊢
    exact this

def frAt (rs : List R1) (fr' : Fr) (t : Nat) : Fr := match rs[t]? with
  | some r => r.fr
  | none => fr'

theorem Tr_length : ∀ (rs : List R1) (l : List Oper) (i : Nat) (fr : Fr) (s : H × Pend) (fr' : Fr) (s' : H × Pend), Tr rec os ms base P rs l i fr s fr' s' → rs.length = l.length ∧ frAt rs fr' 0 = fr ∧ stAt ms rs i s rs.length = s'
  | [], [], i, fr, s, fr', s', h => ⟨rfl, h.1.symm, h.2⟩
  | [], _ :: _, _, _, _, _, _, h => h.elim
  | _ :: _, [], _, _, _, _, _, h => h.elim
  | r :: rs, o :: l, i, fr, s, fr', s', h => by
    obtain ⟨h1, h2, h3, fr1, h4, h5⟩ := h
    obtain ⟨a, b, c⟩ := Tr_length rs l (i + 1) fr1 _ fr' s' h5
    exact ⟨by simp [a], by simp [frAt, h1], by simpa [stAt] using c⟩
theorem Tr_at : ∀ (rs : List R1) (l : List Oper) (i : Nat) (fr : Fr) (s : H × Pend) (fr' : Fr) (s' : H × Pend), Tr rec os ms base P rs l i fr s fr' s' → ∀ t r, rs[t]? = some r →
    l[t]? = some r.o ∧ StepOK rec os ms base P r (i + t) (stAt ms rs i s t) ∧ r.fr.put r.o.dst r.v = some (frAt rs fr' (t + 1))
  | [], [], i, fr, s, fr', s', h, t, r, ht => by simp at ht
  | [], _ :: _, _, _, _, _, _, h, _, _, _ => h.elim
  | _ :: _, [], _, _, _, _, _, h, _, _, _ => h.elim
  | r0 :: rs, o :: l, i, fr, s, fr', s', h, t, r, ht => by
    obtain ⟨h1, h2, h3, fr1, h4, h5⟩ := h
    cases t with
    | zero =>
      simp at ht
      subst ht
      subst h2
      refine ⟨rfl, h3, ?_⟩
      obtain ⟨_, b, _⟩ := Tr_length rs l (i + 1) fr1 _ fr' s' h5
      rw [h1, h4]
      simp only [frAt, List.getElem?_cons_succ] at b ⊢
      rw [b]
    | succ t =>
      rw [List.getElem?_cons_succ] at ht
      obtain ⟨a, b, c⟩ := Tr_at rs l (i + 1) fr1 _ fr' s' h5 t r ht
      refine ⟨by simpa using a, ?_, ?_⟩
      · rw [show i + (t + 1) = i + 1 + t from by omega]
        simpa [stAt] using b
      · simpa [frAt] using c

theorem Fr_put_some {fr fr1 : Fr} {d : Option Tmp} {v : AV} (h : fr.put d v = some fr1) : fr1.n = fr.n ∧ fr1.g = fr.g ∧ (∀ t, d = some t → t < fr.n) ∧ ∀ t u, fr1.tm.get t = some u → (d = some t ∧ v = u) ∨ (d ≠ some t ∧ fr.tm.get t = some u) := by
  cases d with
  | none =>
    have h' : some fr = some fr1 := h
    injection h' with h'
    subst h'
    exact ⟨rfl, rfl, (fun t e => by cases e), fun t u hu => .inr ⟨by simp, hu⟩⟩
  | some d =>
    have h' : sel (Nat.ble (Nat.succ d) fr.n) (forceA v fun v => some (⟨fr.tm.put d v, fr.n, fr.g⟩ : Fr)) none = some fr1 := h
    obtain ⟨h1, h2⟩ := sel_some h'
    rw [forceA_eq] at h2
    injection h2 with h2
    subst h2
    rw [Nat.ble_eq] at h1
    refine ⟨rfl, rfl, (fun t e => by injection e with e; subst e; exact h1), fun t u hu => ?_⟩
    rcases get_put hu with ⟨rfl, rfl⟩ | ⟨hne, hu⟩
    · exact .inl ⟨rfl, rfl⟩
    · exact .inr ⟨fun e => hne (by injection e with e; exact e.symm), hu⟩

/-- blocks laid one by one -/
noncomputable def addAll (base : Nat) (h : H) : Pend → H
  | [] => h
  | (i, cs) :: r => (addAll base h r).add (base + i) (mkBlk cs)
theorem layAll_eq (h : H) : ∀ p : Pend, layAll base h p = addAll base h p
  | [] => rfl
  | (i, cs) :: r => by simp only [layAll, addAll, layAll_eq h r]
theorem lay_fst (mask : Nat) (h : H) : ∀ p : Pend, (lay base mask h p).1 = addAll base h (p.filter fun x => Nat.testBit mask x.1)
  | [] => rfl
  | (i, cs) :: r => by
    have ih := lay_fst mask h r
    unfold lay
    cases hb : Nat.testBit mask i with
    | true => simp only [sel_true, List.filter_cons, hb, if_true, addAll, ih]
    | false => simp only [sel_false, List.filter_cons, hb, Bool.false_eq_true, if_false, ih]

variable {γ : G} {h : H} {F : Nat → Option Obj} {w0 w : World}

theorem HR.absorb (hh : HR γ h F w0 w) {b B : Nat} {cs : List AV} {ccs : List Value} {e : TypeId} (hb : γ.blk b = some (B, 0)) (hF : F B = some (.cells ⟨ccs⟩ e (0, 0))) (hB : w0.heap.size ≤ B) (hr : Rs γ cs ccs) :
    HR γ (h.add b (mkBlk cs)) (fun X => if X = B then none else F X) w0 w := by
  have hother : ∀ b' k' O', h.blks.get b' = some k' → γ.blk b' = some (B, O') → False := fun b' k' O' hk hb' => by
    obtain ⟨B1, O1, p1, p2, p3, _⟩ := hh.here b' k' hk
    rw [hb'] at p1
    injection p1 with p1
    injection p1 with e1 _
    subst e1
    cases hro : k'.ro with
    | false => rw [p2 hro] at hF; cases hF
    | true => have := (p3 hro).1; omega
  refine { hh with low := fun X o hX => ?_, here := fun c l hc => ?_, inj := fun c c' l l' B1 P1 P2 hc hc' hB1 hB2 hl => ?_ }
  · split at hX
    · cases hX
    · exact hh.low X o hX
  · rcases get_put hc with ⟨rfl, rfl⟩ | ⟨hne, hc⟩
    · refine ⟨B, 0, hb, fun _ => by simp, (fun e => by cases e), ?_⟩
      refine at_new (more := []) (e := e) (fz := (0, 0)) hr ?_ rfl (fun i _ => by simp) (fun t sz hts => by cases hts)
      rw [List.append_nil]
      exact hh.low _ _ hF
    · obtain ⟨B1, O1, p1, p2, p3, p4⟩ := hh.here c l hc
      have hne1 : B1 ≠ B := fun e => by subst e; exact hother c l O1 hc p1
      refine ⟨B1, O1, p1, fun hro => by simp [hne1, p2 hro], fun hro => ⟨(p3 hro).1, by simp only [hne1, if_false]; exact (p3 hro).2⟩, p4⟩
  · rcases get_put hc with ⟨rfl, rfl⟩ | ⟨hne, hc1⟩
    · rcases get_put hc' with ⟨rfl, _⟩ | ⟨hne', hc1'⟩
      · rfl
      · rw [hb] at hB1
        injection hB1 with hB1
        injection hB1 with e1 _
        subst e1
        exact (hother _ _ _ hc1' hB2).elim
    · rcases get_put hc' with ⟨rfl, _⟩ | ⟨hne', hc1'⟩
      · rw [hb] at hB2
        injection hB2 with hB2
        injection hB2 with e1 _
        subst e1
        exact (hother _ _ _ hc1 hB1).elim
      · exact hh.inj c c' l l' B1 P1 P2 hc1 hc1' hB1 hB2 hl

/-- a block that waits lies outside the heap -/
def Waits (γ : G) (F : Nat → Option Obj) (w0 : World) (base j : Nat) (cs : List AV) : Prop := ∃ (B : Nat) (ccs : List Value) (e : TypeId), γ.blk (base + j) = some (B, 0) ∧ F B = some (.cells ⟨ccs⟩ e (0, 0)) ∧ w0.heap.size ≤ B ∧ Rs γ cs ccs

open Classical in
theorem HR.addAll (hh : HR γ h F w0 w) : ∀ q : Pend, (∀ x ∈ q, Waits γ F w0 base x.1 x.2) → q.Pairwise (fun x y => ∀ B, γ.blk (base + x.1) = some (B, 0) → γ.blk (base + y.1) = some (B, 0) → False) →
    HR γ (addAll base h q) (fun B => if ∃ x ∈ q, γ.blk (base + x.1) = some (B, 0) then none else F B) w0 w
  | [], _, _ => by
    have e : (fun B => if ∃ x ∈ ([] : Pend), γ.blk (base + x.1) = some (B, 0) then none else F B) = F := by funext B; simp
    rw [e]
    exact hh
  | (j, cs) :: r, hw, hp => by
    have ih := HR.addAll hh r (fun x hx => hw x (by simp [hx])) (List.pairwise_cons.1 hp).2
    obtain ⟨B, ccs, e, h1, h2, h3, h4⟩ := hw (j, cs) (by simp)
    have hnot : ¬ ∃ x ∈ r, γ.blk (base + x.1) = some (B, 0) := fun ⟨x, hx, hxB⟩ => (List.pairwise_cons.1 hp).1 x hx B h1 hxB
    have := ih.absorb (b := base + j) (cs := cs) h1 (by rw [if_neg hnot]; exact h2) h3 h4
    have e : (fun X => if X = B then none else if ∃ x ∈ r, γ.blk (base + x.1) = some (X, 0) then none else F X) = (fun X => if ∃ x ∈ (j, cs) :: r, γ.blk (base + x.1) = some (X, 0) then none else F X) := by
      funext X
      by_cases hX : X = B
      · subst hX
        rw [if_pos rfl, if_pos ⟨(j, cs), by simp, h1⟩]
      · rw [if_neg hX]
        by_cases hr : ∃ x ∈ r, γ.blk (base + x.1) = some (X, 0)
        · rw [if_pos hr]
          obtain ⟨x, hx, hxX⟩ := hr
          rw [if_pos ⟨x, by simp [hx], hxX⟩]
        · rw [if_neg hr, if_neg]
          rintro ⟨x, hx, hxX⟩
          rcases List.mem_cons.1 hx with rfl | hx
          · rw [h1] at hxX
            injection hxX with hxX
            injection hxX with e1 _
            exact hX e1.symm
          · exact hr ⟨x, hx, hxX⟩
    rw [← e]
    exact this

/-- a new block that waits -/
theorem HR.newOut (hh : HR γ h F w0 w) {b : Nat} (obj : Obj) (hb : γ.blk b = none) (hbn : b < h.next) :
    HR (γ.add b w.heap.size 0) h (fun X => if X = w.heap.size then some obj else F X) w0 (w.alloc obj) := by
  have keep : ∀ i, i < w.heap.size → (w.alloc obj).heap[i]? = w.heap[i]? := fun i hi => Below.heap_alloc w obj i hi
  refine { os := hh.os, tape := hh.tape, output := hh.output, size := by simp; exact Nat.le_succ_of_le hh.size, low := fun X o hX => ?_, fresh := fun b' hb' => ?_, ftok := hh.ftok, here := fun c l hc => ?_, inj := fun c c' l l' B1 P1 P2 hc hc' hB1 hB2 hl => ?_ }
  · split at hX
    · rename_i e
      subst e
      injection hX with hX
      subst hX
      show (w.heap.push _)[w.heap.size]? = _
      simp
    · have := hh.low X o hX
      rw [keep X (Array.getElem?_eq_some_iff.1 this).1]
      exact this
  · simp only [G.add]
    rw [if_neg (by omega)]
    exact hh.fresh b' hb'
  · obtain ⟨B1, O1, p1, p2, p3, p4⟩ := hh.here c l hc
    have hne : B1 ≠ w.heap.size := by have := p4.lt; omega
    exact ⟨B1, O1, (G.le_add γ hb).1 _ _ p1, fun hro => by simp [hne, p2 hro], fun hro => ⟨(p3 hro).1, by simp only [hne, if_false]; exact (p3 hro).2⟩, p4.mono (G.le_add γ hb) (keep B1 p4.lt)⟩
  · obtain ⟨B3, O3, p1, _⟩ := hh.here c l hc
    obtain ⟨B4, O4, p2, _⟩ := hh.here c' l' hc'
    have q1 := (G.le_add γ (B := w.heap.size) (O := 0) hb).1 _ _ p1
    have q2 := (G.le_add γ (B := w.heap.size) (O := 0) hb).1 _ _ p2
    rw [hB1] at q1
    rw [hB2] at q2
    injection q1 with q1
    injection q1 with e1 e2
    injection q2 with q2
    injection q2 with e3 e4
    subst e1; subst e2; subst e3; subst e4
    exact hh.inj c c' l l' _ _ _ hc hc' p1 p2 hl
end
end Go.Ev
