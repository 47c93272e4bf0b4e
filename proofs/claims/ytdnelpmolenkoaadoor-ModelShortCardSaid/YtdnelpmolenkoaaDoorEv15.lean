/- A region that draws its order: which blocks wait, and which heap is read when. Conditions: none. -/
import Derived.Test.YtdnelpmolenkoaaDoorEv14
namespace Go.Ev
open Go.RowKit

section
variable {P : Program} {rec : Rec} {os : Array Oper} {base : Nat}

/-- is the record a turn of memory? -/
def isMr (r : R1) : Bool := match r.k with
  | .mem _ _ => true
  | .skip (some _) => true
  | _ => false
theorem heaps_at (ms : List Nat) : ∀ (rs : List R1) (i : Nat) (s : H × Pend) (t : Nat), t ≤ rs.length → (s.1 :: heapsOf rs)[((rs.take t).filter isMr).length]? = some (stAt ms rs i s t).1
  | rs, i, s, 0, _ => by cases rs <;> simp [stAt]
  | [], i, s, t + 1, h => by simp at h
  | r :: rs, i, s, t + 1, h => by
    have ih := heaps_at ms rs (i + 1) (nxt ms r i s) t (by simpa using h)
    obtain ⟨fr, o, v, k⟩ := r
    simp only [stAt, List.take_succ_cons, List.filter_cons]
    cases k with
    | mem hb h1 => simpa [isMr, heapsOf, nxt] using ih
    | skip m =>
      cases m with
      | some hb => simpa [isMr, heapsOf, nxt] using ih
      | none => simpa [isMr, heapsOf, nxt] using ih
    | pure => simpa [isMr, heapsOf, nxt] using ih
    | read => simpa [isMr, heapsOf, nxt] using ih
    | alloc cs => simpa [isMr, heapsOf, nxt] using ih

theorem cnt_eq_mems (P : Program) (os : Array Oper) {K : Nat} (hK : K ≤ os.size) : cnt P os K = ((memsFrom P 0 os.toList).filter (fun m => decide (m < K))).length := by
  rw [mems_eq, List.filter_filter]
  unfold cnt
  have : List.range os.size = List.range K ++ (List.range (os.size - K)).map (K + ·) := by
    have : os.size = K + (os.size - K) := by omega
    rw [this, List.range_add]
    simp
  rw [this, List.filter_append, List.length_append]
  have e1 : (List.range K).filter (fun a => decide (a < K) && isMi P os a) = (List.range K).filter (isMi P os) := by
    apply List.filter_congr
    intro m hm
    simp at hm
    simp [hm]
  have e2 : ((List.range (os.size - K)).map (K + ·)).filter (fun a => decide (a < K) && isMi P os a) = [] := by
    rw [List.filter_eq_nil_iff]
    intro m hm
    simp at hm
    obtain ⟨x, _, rfl⟩ := hm
    simp
    intro h
    omega
  rw [e1, e2]
  simp

variable {rs : List R1} {h0 : H} {fr0 fr' : Fr} (T : Told P rec os base rs h0 fr0 fr')
include T

theorem Told.isMr_iff {t : Nat} {r : R1} (h : rs[t]? = some r) : isMr r = isMi P os t := by
  have hk := T.kind h
  unfold isMr
  split
  · rename_i hk'; exact (hk.2 (.inl ⟨_, _, hk'⟩)).symm
  · rename_i hk'; exact (hk.2 (.inr ⟨_, hk'⟩)).symm
  · rename_i h1 h2
    cases hM : isMi P os t with
    | false => rfl
    | true =>
      rcases hk.1 hM with ⟨hb, h3, e⟩ | ⟨hb, e⟩
      · exact (h1 _ _ e).elim
      · exact (h2 _ e).elim
theorem Told.count (t : Nat) (ht : t ≤ os.size) : ((rs.take t).filter isMr).length = cnt P os t := by
  induction t with
  | zero => simp [cnt]
  | succ t ih =>
    obtain ⟨r, hr⟩ := T.rec_at (by omega : t < os.size)
    rw [List.take_add_one, hr, List.filter_append, List.length_append, ih (by omega), cnt_succ]
    simp only [Option.toList_some, List.filter_cons, List.filter_nil]
    rw [T.isMr_iff hr]
    cases isMi P os t <;> simp
theorem Told.heap_at (t : Nat) (ht : t ≤ os.size) : (h0 :: heapsOf rs)[cnt P os t]? = some (stAt (masks os) rs 0 (h0, []) t).1 := by
  rw [← T.count t ht]
  exact heaps_at (masks os) rs 0 (h0, []) t (by rw [T.len]; exact ht)

/-- what is read is read of the heap that there is -/
theorem Told.read_at {S : Nat → Prop} (hdc : DC os S) {t : Nat} {r : R1} (hr : rs[t]? = some r) (hk : r.k = .read) (hready : ∀ e ∈ r.o.after, Region.binds .any e = true → S e.on) (hnot : ¬ S t) {K : Nat} (hK : K ≤ os.size) (hS : ∀ m, isMi P os m = true → (S m ↔ m < K)) :
    readOp P r.fr r.o (stAt (masks os) rs 0 (h0, []) K).1 = some r.v := by
  have ho := (T.at_ t r hr).1
  refine T.reads t r hr hk (cnt P os K) _ ?_ ?_ (T.heap_at K hK)
  · rw [cnt_eq_mems P os hK, ← List.countP_eq_length_filter, ← List.countP_eq_length_filter]
    refine List.countP_mono_left fun m hm hb => ?_
    have hM : isMi P os m = true := by rw [mems_eq] at hm; exact (List.mem_filter.1 hm).2
    have := mask_in hdc t r.o ho hready m hb
    simpa using (hS m hM).1 this
  · rw [cnt_eq_mems P os hK, ← List.countP_eq_length_filter, ← List.countP_eq_length_filter]
    refine List.countP_mono_left fun m hm hb => ?_
    rw [mems_eq, List.mem_filter, List.mem_range] at hm
    have hSm : S m := (hS m hm.2).2 (by simpa using hb)
    cases hbit : Nat.testBit ((masks os).getD m 0) t with
    | false => rfl
    | true => exact absurd (mask_closed hdc hm.1 hSm hbit) hnot

/-- which blocks wait ahead of the t-th operation -/
theorem Told.pend_at (t : Nat) (ht : t ≤ os.size) : (∀ j cs, (j, cs) ∈ (stAt (masks os) rs 0 (h0, []) t).2 ↔ j < t ∧ (∃ r, rs[j]? = some r ∧ r.k = .alloc cs) ∧ ∀ m, m < t → isMi P os m = true → Nat.testBit ((masks os).getD m 0) j = false) ∧
    (stAt (masks os) rs 0 (h0, []) t).2.Pairwise (fun x y => y.1 < x.1) := by
  induction t with
  | zero => exact ⟨fun j cs => by simp [stAt], by simp [stAt]⟩
  | succ t ih =>
    obtain ⟨ih1, ih2⟩ := ih (by omega)
    obtain ⟨r, hr⟩ := T.rec_at (by omega : t < os.size)
    rw [stAt_succ rs 0 (h0, []) t r hr]
    rw [Nat.zero_add]
    have hk := T.kind hr
    have hcut : isMi P os t = true → (∀ cs, r.k ≠ .alloc cs) → ∀ j cs, (j, cs) ∈ cut ((masks os).getD t 0) (stAt (masks os) rs 0 (h0, []) t).2 ↔ j < t + 1 ∧ (∃ r, rs[j]? = some r ∧ r.k = .alloc cs) ∧ ∀ m, m < t + 1 → isMi P os m = true → Nat.testBit ((masks os).getD m 0) j = false := fun hM hna j cs => by
      unfold cut
      rw [List.mem_filter, ih1]
      constructor
      · rintro ⟨⟨a, b, c⟩, d⟩
        refine ⟨by omega, b, fun m hm hMm => ?_⟩
        rcases Nat.lt_succ_iff_lt_or_eq.1 hm with h | rfl
        · exact c m h hMm
        · simpa using d
      · rintro ⟨a, ⟨r', hr', hk'⟩, c⟩
        have hne : j ≠ t := fun e => by
          subst e
          rw [hr] at hr'
          injection hr' with hr'
          subst hr'
          exact hna _ hk'
        exact ⟨⟨by omega, ⟨r', hr', hk'⟩, fun m hm hMm => c m (by omega) hMm⟩, by simpa using c t (by omega) hM⟩
    have hplain : isMi P os t = false → (∀ cs, r.k ≠ .alloc cs) → ∀ j cs, (j, cs) ∈ (stAt (masks os) rs 0 (h0, []) t).2 ↔ j < t + 1 ∧ (∃ r, rs[j]? = some r ∧ r.k = .alloc cs) ∧ ∀ m, m < t + 1 → isMi P os m = true → Nat.testBit ((masks os).getD m 0) j = false := fun hM hna j cs => by
      rw [ih1]
      constructor
      · rintro ⟨a, b, c⟩
        refine ⟨by omega, b, fun m hm hMm => ?_⟩
        rcases Nat.lt_succ_iff_lt_or_eq.1 hm with h | rfl
        · exact c m h hMm
        · rw [hM] at hMm; cases hMm
      · rintro ⟨a, ⟨r', hr', hk'⟩, c⟩
        have hne : j ≠ t := fun e => by
          subst e
          rw [hr] at hr'
          injection hr' with hr'
          subst hr'
          exact hna _ hk'
        exact ⟨by omega, ⟨r', hr', hk'⟩, fun m hm hMm => c m (by omega) hMm⟩
    have hnM : (∀ hb h1, r.k ≠ .mem hb h1) → (∀ hb, r.k ≠ .skip (some hb)) → isMi P os t = false := fun a b => by
      cases hM : isMi P os t with
      | false => rfl
      | true =>
        rcases hk.1 hM with ⟨hb, h1, e⟩ | ⟨hb, e⟩
        · exact absurd e (a _ _)
        · exact absurd e (b _)
    unfold nxt
    split
    · rename_i hb h1 hk'
      exact ⟨hcut (hk.2 (.inl ⟨_, _, hk'⟩)) (fun cs e => by rw [hk'] at e; cases e), List.Pairwise.filter _ ih2⟩
    · rename_i hb hk'
      exact ⟨hcut (hk.2 (.inr ⟨_, hk'⟩)) (fun cs e => by rw [hk'] at e; cases e), List.Pairwise.filter _ ih2⟩
    · rename_i cs0 hk'
      have hM := hnM (fun hb h1 e => by rw [hk'] at e; cases e) (fun hb e => by rw [hk'] at e; cases e)
      refine ⟨fun j cs => ?_, List.pairwise_cons.2 ⟨fun x hx => ((ih1 x.1 x.2).1 hx).1, ih2⟩⟩
      simp only [List.mem_cons, Prod.mk.injEq]
      rw [ih1]
      constructor
      · rintro (⟨rfl, rfl⟩ | ⟨a, b, c⟩)
        · refine ⟨by omega, ⟨r, hr, hk'⟩, fun m hm hMm => ?_⟩
          cases hbit : Nat.testBit ((masks os).getD m 0) j with
          | false => rfl
          | true => have := T.mask_lt (by omega) hbit; omega
        · refine ⟨by omega, b, fun m hm hMm => ?_⟩
          rcases Nat.lt_succ_iff_lt_or_eq.1 hm with h | rfl
          · exact c m h hMm
          · rw [hM] at hMm; cases hMm
      · rintro ⟨a, ⟨r', hr', hk2⟩, c⟩
        by_cases hne : j = t
        · subst hne
          rw [hr] at hr'
          injection hr' with hr'
          subst hr'
          rw [hk'] at hk2
          injection hk2 with hk2
          exact .inl ⟨rfl, hk2.symm⟩
        · exact .inr ⟨by omega, ⟨r', hr', hk2⟩, fun m hm hMm => c m (by omega) hMm⟩
    · rename_i h1 h2 h3
      have hM := hnM (fun hb h1' e => h1 _ _ e) (fun hb e => h2 _ e)
      exact ⟨hplain hM (fun cs e => h3 _ e), ih2⟩

/-- what a frame of the text's order holds -/
theorem Told.frame_at : ∀ (i : Nat), i ≤ os.size → (frAt rs fr' i).n = fr0.n ∧ (frAt rs fr' i).g = fr0.g ∧ ∀ t v, (frAt rs fr' i).tm.get t = some v →
    (∃ j r, j < i ∧ rs[j]? = some r ∧ r.o.dst = some t ∧ r.v = v ∧ ∀ k r', j < k → k < i → rs[k]? = some r' → r'.o.dst ≠ some t) ∨
    ((∀ k r', k < i → rs[k]? = some r' → r'.o.dst ≠ some t) ∧ fr0.tm.get t = some v) := by
  intro i
  induction i with
  | zero =>
    intro _
    rw [T.first]
    exact ⟨rfl, rfl, fun t v h => .inr ⟨fun k r' hk => by omega, h⟩⟩
  | succ i ih =>
    intro hi
    obtain ⟨ih1, ih2, ih3⟩ := ih (by omega)
    obtain ⟨r, hr⟩ := T.rec_at (by omega : i < os.size)
    obtain ⟨_, _, hp⟩ := T.at_ i r hr
    have hfi : frAt rs fr' i = r.fr := by simp [frAt, hr]
    obtain ⟨p1, p2, p3, p4⟩ := Fr_put_some hp
    rw [hfi] at ih1 ih2 ih3
    refine ⟨p1.trans ih1, p2.trans ih2, fun t v ht => ?_⟩
    rcases p4 t v ht with ⟨hd, rfl⟩ | ⟨hd, ht⟩
    · exact .inl ⟨i, r, by omega, hr, hd, rfl, fun k r' a b => by omega⟩
    · rcases ih3 t v ht with ⟨j, r1, a, b, c, d, e⟩ | ⟨a, b⟩
      · refine .inl ⟨j, r1, by omega, b, c, d, fun k r' hk1 hk2 hk3 => ?_⟩
        rcases Nat.lt_succ_iff_lt_or_eq.1 hk2 with h | rfl
        · exact e k r' hk1 h hk3
        · rw [hr] at hk3
          injection hk3 with hk3
          subst hk3
          exact hd
      · refine .inr ⟨fun k r' hk hk3 => ?_, b⟩
        rcases Nat.lt_succ_iff_lt_or_eq.1 hk with h | rfl
        · exact a k r' h hk3
        · rw [hr] at hk3
          injection hk3 with hk3
          subst hk3
          exact hd
end
end Go.Ev
