/- A region that draws its order: whatever order is drawn comes to what the evaluator tells. Conditions: none. -/
import Derived.Test.YtdnelpmolenkoaaDoorEv13
namespace Go.Ev
open Go.RowKit

-- equal abstract values

theorem intEq_true {a b : Int} (h : intEq a b = true) : a = b := by rw [intEq_eq] at h; simpa using h
theorem beqB_true {x y : ByteArray} (h : beqB x.data.toList y.data.toList = true) : x = y := by
  rw [beqB_eq] at h
  have h : x.data.toList = y.data.toList := by simpa using h
  have : x.data = y.data := Array.ext' h
  cases x; cases y
  simp at this
  subst this
  rfl
theorem veq1_eq {a b : Value} (h : veq1 a b = true) : a = b := by
  unfold veq1 at h
  split at h
  · rename_i x y; cases x <;> cases y <;> first | rfl | (simp at h)
  · simp only [Bool.and_eq_true] at h
    rw [kEq_eq h.1, intEq_true h.2]
  · rw [beqB_true h]
  · rfl
  · simp only [Bool.and_eq_true, Nat.beq_eq] at h
    rw [h.1, h.2]
  · rfl
  · rfl
  · rw [Nat.beq_eq] at h; rw [h]
  · simp only [Bool.and_eq_true, Nat.beq_eq] at h
    rw [h.1, beqB_true h.2]
  · simp only [Bool.and_eq_true, Nat.beq_eq] at h
    rw [h.1, kEq_eq h.2.1, intEq_true h.2.2]
  · cases h
theorem veqs_eq : ∀ (x y : List Value), veqs x y = true → x = y
  | [], [], _ => rfl
  | [], _ :: _, h => by cases h
  | _ :: _, [], h => by cases h
  | a :: x, b :: y, h => by
    simp only [veqs, Bool.and_eq_true] at h
    rw [veq1_eq h.1, veqs_eq x y h.2]
theorem capEq_eq {a b : Cap} (h : capEq a b = true) : a = b := by
  cases a <;> cases b <;> simp only [capEq, Bool.and_eq_true, Nat.beq_eq] at h <;> first | (cases h; done) | skip
  · rw [h]
  · rw [h.1, h.2]
theorem aveq1_eq {a b : AV} (h : aveq1 a b = true) : a = b := by
  unfold aveq1 at h
  split at h
  · rename_i x y
    have := veqs_eq _ _ h
    rw [Array.ext' this]
  · rw [veq1_eq h]
  · simp only [Bool.and_eq_true, Nat.beq_eq] at h
    rw [h.1, h.2]
  · simp only [Bool.and_eq_true, Nat.beq_eq] at h
    obtain ⟨⟨⟨h1, h2⟩, h3⟩, h4⟩ := h
    rw [h1, h2, h3, capEq_eq h4]
  · cases h
theorem aveqs_eq : ∀ (x y : List AV), aveqs x y = true → x = y
  | [], [], _ => rfl
  | [], _ :: _, h => by cases h
  | _ :: _, [], h => by cases h
  | a :: x, b :: y, h => by
    simp only [aveqs, Bool.and_eq_true] at h
    rw [aveq1_eq h.1, aveqs_eq x y h.2]
theorem aveq_eq {a b : AV} (h : aveq a b = true) : a = b := by
  unfold aveq at h
  split at h
  · rw [aveqs_eq _ _ h]
  · simp only [Bool.and_eq_true, Nat.beq_eq] at h
    rw [h.1, aveqs_eq _ _ h.2.1, aveqs_eq _ _ h.2.2]
  · exact aveq1_eq h

section
variable {P : Program} {rec : Rec} {os : Array Oper} {base : Nat}

theorem readsOk_spec {ms mems : List Nat} {hs : List H} : ∀ (rs : List R1) (i : Nat), readsOk P ms mems hs i rs = true → ∀ t r, rs[t]? = some r → r.k = .read →
    ∀ h ∈ (hs.drop (mems.filter (fun m => Nat.testBit (ms.getD (i + t) 0) m)).length).take ((mems.filter (fun m => !Nat.testBit (ms.getD m 0) (i + t))).length + 1 - (mems.filter (fun m => Nat.testBit (ms.getD (i + t) 0) m)).length), readOp P r.fr r.o h = some r.v
  | [], i, _, t, r, ht, _, _, _ => by simp at ht
  | r0 :: rs, i, h, t, r, ht, hk, hp, hm => by
    obtain ⟨fr0, o0, v0, k0⟩ := r0
    simp only [readsOk, Bool.and_eq_true] at h
    cases t with
    | zero =>
      simp at ht
      subst ht
      simp only at hk
      subst hk
      have h1 := List.all_eq_true.1 h.1 hp (by simpa using hm)
      split at h1
      · rename_i u hu
        rw [aveq_eq h1] at hu
        exact hu
      · cases h1
    | succ t =>
      rw [List.getElem?_cons_succ] at ht
      have := readsOk_spec rs (i + 1) h.2 t r ht hk hp
      rw [show i + 1 + t = i + (t + 1) from by omega] at this
      exact this hm
theorem mem_window {α : Type} {l : List α} {x : α} {q lo hi : Nat} (h : l[q]? = some x) (h1 : lo ≤ q) (h2 : q ≤ hi) : x ∈ (l.drop lo).take (hi + 1 - lo) := by
  refine List.mem_of_getElem? (i := q - lo) ?_
  rw [List.getElem?_take, if_pos (by omega), List.getElem?_drop]
  rw [show lo + (q - lo) = q from by omega]
  exact h

/-- all that the evaluator has told of the region -/
structure Told (P : Program) (rec : Rec) (os : Array Oper) (base : Nat) (rs : List R1) (h0 : H) (fr0 fr' : Fr) : Prop where
  edges : ∀ i o, os[i]? = some o → ∀ e ∈ o.after, Region.binds .any e = true → e.on < i
  pairs : ∀ i j oi oj, i < j → os[i]? = some oi → os[j]? = some oj → Nat.testBit ((masks os).getD j 0) i = true ∨ oi.apart os oj = true
  chain : ∀ x m, isMi P os x = true → isMi P os m = true → x < m → Nat.testBit ((masks os).getD m 0) x = true
  len : rs.length = os.size
  at_ : ∀ t r, rs[t]? = some r → os[t]? = some r.o ∧ StepOK rec os (masks os) base P r t (stAt (masks os) rs 0 (h0, []) t) ∧ r.fr.put r.o.dst r.v = some (frAt rs fr' (t + 1))
  first : frAt rs fr' 0 = fr0
  reads : ∀ t r, rs[t]? = some r → r.k = .read → ∀ q h, ((memsFrom P 0 os.toList).filter (fun m => Nat.testBit ((masks os).getD t 0) m)).length ≤ q → q ≤ ((memsFrom P 0 os.toList).filter (fun m => !Nat.testBit ((masks os).getD m 0) t)).length →
    (h0 :: heapsOf rs)[q]? = some h → readOp P r.fr r.o h = some r.v
  next : base + os.size ≤ h0.next

variable {rs : List R1} {h0 : H} {fr0 fr' : Fr} (T : Told P rec os base rs h0 fr0 fr')
include T

theorem Told.rec_at {t : Nat} (h : t < os.size) : ∃ r, rs[t]? = some r := ⟨rs[t]'(by rw [T.len]; exact h), List.getElem?_eq_getElem (by rw [T.len]; exact h)⟩
theorem Told.mask_lt {m j : Nat} (hm : m < os.size) (h : Nat.testBit ((masks os).getD m 0) j = true) : j < m := by
  have ho : os[m]? = some os[m] := Array.getElem?_eq_getElem hm
  refine mask_in (S := fun x => x < m) (fun i o hoi hi e he hb => ?_) m _ ho (fun e he hb => T.edges m _ ho e he hb) j h
  have := T.edges i o hoi e he hb
  show e.on < m
  have : i < m := hi
  omega
/-- is the t-th a turn of memory? -/
theorem Told.kind {t : Nat} {r : R1} (h : rs[t]? = some r) : isMi P os t = true ↔ ((∃ hb h1, r.k = .mem hb h1) ∨ ∃ hb, r.k = .skip (some hb)) := by
  obtain ⟨ho, hs, _⟩ := T.at_ t r h
  rw [isM_cls ho]
  unfold StepOK at hs
  split at hs
  · rename_i hk
    exact ⟨fun e => absurd e hs.2.2, fun e => by rcases e with ⟨_, _, e⟩ | ⟨_, e⟩ <;> rw [hk] at e <;> cases e⟩
  · rename_i hb hk
    exact ⟨fun _ => .inr ⟨hb, hk⟩, fun _ => hs.2.2.1⟩
  · rename_i hk
    exact ⟨fun e => absurd e hs.2.1, fun e => by rcases e with ⟨_, _, e⟩ | ⟨_, e⟩ <;> rw [hk] at e <;> cases e⟩
  · rename_i hk
    exact ⟨fun e => absurd e hs.2, fun e => by rcases e with ⟨_, _, e⟩ | ⟨_, e⟩ <;> rw [hk] at e <;> cases e⟩
  · rename_i cs hk
    exact ⟨fun e => absurd e hs.2.1, fun e => by rcases e with ⟨_, _, e⟩ | ⟨_, e⟩ <;> rw [hk] at e <;> cases e⟩
  · rename_i hb h1 hk
    exact ⟨fun _ => .inl ⟨hb, h1, hk⟩, fun _ => hs.2.1⟩

theorem Told.st_same {t : Nat} (ht : t < os.size) (h : isMi P os t = false) : (stAt (masks os) rs 0 (h0, []) (t + 1)).1 = (stAt (masks os) rs 0 (h0, []) t).1 := by
  obtain ⟨r, hr⟩ := T.rec_at ht
  rw [stAt_succ rs 0 (h0, []) t r hr]
  have hk := T.kind hr
  rw [h] at hk
  unfold nxt
  split
  · rename_i hk'; exact absurd (hk.2 (.inl ⟨_, _, hk'⟩)) (by simp)
  · rename_i hk'; exact absurd (hk.2 (.inr ⟨_, hk'⟩)) (by simp)
  · rfl
  · rfl
theorem Told.st_const {t k : Nat} (h1 : t ≤ k) (h2 : k ≤ os.size) (h : ∀ m, t ≤ m → m < k → isMi P os m = false) : (stAt (masks os) rs 0 (h0, []) k).1 = (stAt (masks os) rs 0 (h0, []) t).1 := by
  induction k with
  | zero => have : t = 0 := by omega
            subst this; rfl
  | succ k ih =>
    by_cases hk : t ≤ k
    · rw [T.st_same (by omega) (h k hk (by omega))]
      exact ih hk (by omega) (fun m a b => h m a (by omega))
    · have : t = k + 1 := by omega
      subst this; rfl
/-- two places with the same turns of memory ahead of them -/
theorem Told.st_eq {t k : Nat} (h1 : t ≤ os.size) (h2 : k ≤ os.size) (h : ∀ m, isMi P os m = true → (m < t ↔ m < k)) : (stAt (masks os) rs 0 (h0, []) k).1 = (stAt (masks os) rs 0 (h0, []) t).1 := by
  have key : ∀ m, (t ≤ m ∧ m < k) ∨ (k ≤ m ∧ m < t) → isMi P os m = false := fun m hm => by
    cases hM : isMi P os m with
    | false => rfl
    | true => have := h m hM; omega
  rcases Nat.le_total t k with hle | hle
  · exact T.st_const hle h2 (fun m a b => key m (.inl ⟨a, b⟩))
  · exact (T.st_const hle h1 (fun m a b => key m (.inr ⟨a, b⟩))).symm
end
end Go.Ev
