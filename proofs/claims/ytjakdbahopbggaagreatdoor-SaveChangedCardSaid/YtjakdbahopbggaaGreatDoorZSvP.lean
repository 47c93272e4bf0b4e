/- Entries as plain lists, rising by key: looking up, putting, taking away, what is not so in another one. No program here. Conditions: none. -/
import Derived.Lib.Strings
namespace Go.Proofs.YtjakdbahopbggaaGreatDoor
open Go

/-- an entry: its key, and what it has -/
structure En where
  k : List UInt8
  v : List UInt8
deriving DecidableEq, Inhabited
def Rise (l : List En) : Prop := l.Pairwise fun a b => a.k < b.k
def getV (l : List En) (k : List UInt8) : Option (List UInt8) := (l.find? fun e => decide (e.k = k)).map (·.v)
def hasK (l : List En) (k : List UInt8) : Bool := (getV l k).isSome
def lbN (l : List En) (k : List UInt8) : Nat := l.countP fun e => decide (e.k < k)
def putL (l : List En) (k v : List UInt8) : List En := if hasK l k then l.set (lbN l k) ⟨k, v⟩ else l.take (lbN l k) ++ ⟨k, v⟩ :: l.drop (lbN l k)
def delL (l : List En) (k : List UInt8) : List En := if hasK l k then l.take (lbN l k) ++ l.drop (lbN l k + 1) else l
/-- the keys of l that m has not -/
def goneL (l m : List En) : List En := l.filter fun e => decide (getV m e.k = none)
/-- what of l is not so in m -/
def newL (l m : List En) : List En := l.filter fun e => decide (getV m e.k ≠ some e.v)

theorem k_irrefl (a : List UInt8) : ¬ a < a := List.lt_irrefl a
theorem k_trans {a b c : List UInt8} (h : a < b) (h' : b < c) : a < c := List.lt_trans h h'
theorem k_tri : ∀ a b : List UInt8, a < b ∨ a = b ∨ b < a
  | [], [] => .inr (.inl rfl)
  | [], _ :: _ => .inl (by simp)
  | _ :: _, [] => .inr (.inr (by simp))
  | a :: x, b :: y => by
    simp only [List.cons_lt_cons_iff]
    by_cases h1 : a < b
    · exact .inl (.inl h1)
    · by_cases h2 : b < a
      · exact .inr (.inr (.inl h2))
      · have e : a = b := UInt8.le_antisymm (UInt8.not_lt.1 h2) (UInt8.not_lt.1 h1)
        subst e
        rcases k_tri x y with h | h | h
        · exact .inl (.inr ⟨rfl, h⟩)
        · subst h; exact .inr (.inl rfl)
        · exact .inr (.inr (.inr ⟨rfl, h⟩))

theorem getV_nil (k : List UInt8) : getV [] k = none := rfl
theorem getV_cons (e : En) (l : List En) (k : List UInt8) : getV (e :: l) k = if e.k = k then some e.v else getV l k := by
  unfold getV
  rw [List.find?_cons]
  by_cases h : e.k = k <;> simp [h]
theorem getV_append (l m : List En) (k : List UInt8) : getV (l ++ m) k = (getV l k).or (getV m k) := by
  induction l with
  | nil => simp [getV_nil]
  | cons e l ih => rw [List.cons_append, getV_cons, getV_cons, ih]; by_cases h : e.k = k <;> simp [h]
theorem getV_none {l : List En} {k : List UInt8} : getV l k = none ↔ ∀ e ∈ l, e.k ≠ k := by
  induction l with
  | nil => simp [getV_nil]
  | cons e l ih =>
    rw [getV_cons]
    by_cases h : e.k = k
    · simp [h]
    · simp [h, ih]
theorem getV_mem {l : List En} {k v : List UInt8} (h : getV l k = some v) : ⟨k, v⟩ ∈ l := by
  induction l with
  | nil => simp [getV_nil] at h
  | cons e l ih =>
    rw [getV_cons] at h
    by_cases hk : e.k = k
    · rw [if_pos hk] at h
      have hv : e.v = v := by simpa using h
      have : e = ⟨k, v⟩ := by cases e; cases hk; cases hv; rfl
      rw [this]; exact List.mem_cons_self
    · rw [if_neg hk] at h; exact List.mem_cons_of_mem _ (ih h)
theorem Rise.head {e : En} {l : List En} (h : Rise (e :: l)) : ∀ x ∈ l, e.k < x.k := (List.pairwise_cons.1 h).1
theorem Rise.tail {e : En} {l : List En} (h : Rise (e :: l)) : Rise l := (List.pairwise_cons.1 h).2
theorem getV_of_mem {l : List En} (hl : Rise l) {e : En} (h : e ∈ l) : getV l e.k = some e.v := by
  induction l with
  | nil => cases h
  | cons a l ih =>
    rw [getV_cons]
    rcases List.mem_cons.1 h with rfl | h
    · simp
    · have := hl.head e h
      rw [if_neg (fun e' => k_irrefl e.k (by rw [e'] at this; exact this)), ih hl.tail h]
theorem getV_iff {l : List En} (hl : Rise l) {k v : List UInt8} : getV l k = some v ↔ (⟨k, v⟩ : En) ∈ l := ⟨getV_mem, fun h => getV_of_mem hl h⟩
theorem Rise.ext {l m : List En} (hl : Rise l) (hm : Rise m) (h : ∀ e : En, e ∈ l ↔ e ∈ m) : l = m := by
  induction l generalizing m with
  | nil =>
    cases m with
    | nil => rfl
    | cons b m => exact absurd ((h b).2 List.mem_cons_self) (by simp)
  | cons a l ih =>
    cases m with
    | nil => exact absurd ((h a).1 List.mem_cons_self) (by simp)
    | cons b m =>
      have e1 : a = b := by
        rcases List.mem_cons.1 ((h a).1 List.mem_cons_self) with e | ha
        · exact e
        · rcases List.mem_cons.1 ((h b).2 List.mem_cons_self) with e | hb
          · exact e.symm
          · exact absurd (k_trans (hl.head b hb) (hm.head a ha)) (k_irrefl _)
      subst e1
      congr 1
      refine ih hl.tail hm.tail fun e => ?_
      constructor
      · intro he
        rcases List.mem_cons.1 ((h e).1 (List.mem_cons_of_mem _ he)) with rfl | h'
        · exact absurd (hl.head _ he) (k_irrefl _)
        · exact h'
      · intro he
        rcases List.mem_cons.1 ((h e).2 (List.mem_cons_of_mem _ he)) with rfl | h'
        · exact absurd (hm.head _ he) (k_irrefl _)
        · exact h'
theorem Rise.get_ext {l m : List En} (hl : Rise l) (hm : Rise m) (h : ∀ k, getV l k = getV m k) : l = m :=
  hl.ext hm fun e => by
    have := h e.k
    constructor
    · intro he
      rw [getV_of_mem hl he] at this
      exact getV_mem this.symm
    · intro he
      rw [getV_of_mem hm he] at this
      exact getV_mem this

/-- where a key stands -/
theorem Rise.split {l : List En} (hl : Rise l) (k : List UInt8) :
    (∃ A B, l = A ++ B ∧ A.length = lbN l k ∧ (∀ e ∈ A, e.k < k) ∧ (∀ e ∈ B, k < e.k) ∧ getV l k = none) ∨
    (∃ A v B, l = A ++ ⟨k, v⟩ :: B ∧ A.length = lbN l k ∧ (∀ e ∈ A, e.k < k) ∧ (∀ e ∈ B, k < e.k) ∧ getV l k = some v) := by
  induction l with
  | nil => exact .inl ⟨[], [], rfl, rfl, by simp, by simp, rfl⟩
  | cons a l ih =>
    rcases k_tri a.k k with h | h | h
    · have hne : a.k ≠ k := fun e => by rw [e] at h; exact k_irrefl _ h
      have hlb : lbN (a :: l) k = lbN l k + 1 := by unfold lbN; rw [List.countP_cons_of_pos (by simpa using h)]
      rcases ih hl.tail with ⟨A, B, h1, h2, h3, h4, h5⟩ | ⟨A, v, B, h1, h2, h3, h4, h5⟩
      · refine .inl ⟨a :: A, B, by rw [h1]; rfl, by rw [hlb, ← h2]; rfl, ?_, h4, by rw [getV_cons, if_neg hne, h5]⟩
        intro e he
        rcases List.mem_cons.1 he with rfl | he
        · exact h
        · exact h3 e he
      · refine .inr ⟨a :: A, v, B, by rw [h1]; rfl, by rw [hlb, ← h2]; rfl, ?_, h4, by rw [getV_cons, if_neg hne, h5]⟩
        intro e he
        rcases List.mem_cons.1 he with rfl | he
        · exact h
        · exact h3 e he
    · have hz : lbN (a :: l) k = 0 := by
        unfold lbN
        rw [List.countP_eq_zero]
        intro e he
        have hnot : ¬ e.k < k := by
          rcases List.mem_cons.1 he with rfl | he
          · rw [h]; exact k_irrefl _
          · have := hl.head e he
            rw [h] at this
            exact fun h' => k_irrefl _ (k_trans this h')
        simpa using hnot
      refine .inr ⟨[], a.v, l, by rw [← h]; rfl, by rw [hz]; rfl, by simp, fun e he => h ▸ hl.head e he, by rw [getV_cons, if_pos h]⟩
    · have hz : lbN (a :: l) k = 0 := by
        unfold lbN
        rw [List.countP_eq_zero]
        intro e he
        have hnot : ¬ e.k < k := by
          rcases List.mem_cons.1 he with rfl | he
          · exact fun h' => k_irrefl _ (k_trans h h')
          · exact fun h' => k_irrefl _ (k_trans (k_trans h (hl.head e he)) h')
        simpa using hnot
      have hB : ∀ e ∈ a :: l, k < e.k := by
        intro e he
        rcases List.mem_cons.1 he with rfl | he
        · exact h
        · exact k_trans h (hl.head e he)
      exact .inl ⟨[], a :: l, rfl, by rw [hz]; rfl, by simp, hB, getV_none.2 fun e he e' => k_irrefl _ (e' ▸ hB e he)⟩
theorem Rise.lb {l : List En} (hl : Rise l) (k : List UInt8) : lbN l k ≤ l.length ∧ (∀ j (h : j < l.length), j < lbN l k → (l[j]'h).k < k) ∧ (∀ j (h : j < l.length), lbN l k ≤ j → ¬ (l[j]'h).k < k) ∧ (hasK l k = true ↔ ∃ h : lbN l k < l.length, (l[lbN l k]'h).k = k) := by
  rcases hl.split k with ⟨A, B, h1, h2, h3, h4, h5⟩ | ⟨A, v, B, h1, h2, h3, h4, h5⟩
  · refine ⟨by rw [← h2, h1]; simp, ?_, ?_, ?_⟩
    · intro j h hj
      subst h1
      rw [List.getElem_append_left (by omega)]
      exact h3 _ (List.getElem_mem _)
    · intro j h hj
      subst h1
      rw [List.getElem_append_right (by omega)]
      exact fun h' => k_irrefl _ (k_trans h' (h4 _ (List.getElem_mem _)))
    · unfold hasK
      rw [h5]
      simp only [Option.isSome_none, Bool.false_eq_true, false_iff, not_exists]
      intro hlt e
      exact (getV_none.1 h5) _ (List.getElem_mem hlt) e
  · refine ⟨by rw [← h2, h1]; simp, ?_, ?_, ?_⟩
    · intro j h hj
      subst h1
      rw [List.getElem_append_left (by omega)]
      exact h3 _ (List.getElem_mem _)
    · intro j h hj
      subst h1
      rw [List.getElem_append_right (by omega)]
      have hm := List.getElem_mem (l := ⟨k, v⟩ :: B) (n := j - A.length) (by simp at h ⊢; omega)
      rcases List.mem_cons.1 hm with e | hm
      · rw [e]; exact k_irrefl _
      · exact fun h' => k_irrefl _ (k_trans h' (h4 _ hm))
    · unfold hasK
      rw [h5]
      simp only [Option.isSome_some, true_iff]
      have hlt : lbN l k < l.length := by rw [← h2, h1]; simp
      refine ⟨hlt, ?_⟩
      subst h1
      rw [List.getElem_append_right (by omega)]
      simp [h2]
theorem Rise.set_at {l : List En} (hl : Rise l) (k v : List UInt8) (k' : List UInt8) : Rise (putL l k v) ∧ getV (putL l k v) k' = if k' = k then some v else getV l k' := by
  have pp := hl
  unfold Rise at pp
  rcases hl.split k with ⟨A, B, h1, h2, h3, h4, h5⟩ | ⟨A, v0, B, h1, h2, h3, h4, h5⟩
  · have e : putL l k v = A ++ ⟨k, v⟩ :: B := by
      unfold putL hasK
      rw [h5, ← h2, h1]
      simp
    rw [e]
    rw [h1, List.pairwise_append] at pp
    constructor
    · unfold Rise
      rw [List.pairwise_append, List.pairwise_cons]
      refine ⟨pp.1, ⟨fun x hx => h4 x hx, pp.2.1⟩, fun a ha b hb => ?_⟩
      rcases List.mem_cons.1 hb with rfl | hb
      · exact h3 a ha
      · exact pp.2.2 a ha b hb
    · rw [getV_append, getV_cons, h1, getV_append]
      by_cases hk : k' = k
      · subst hk
        rw [getV_none.2 fun e he => fun e' => k_irrefl _ (e' ▸ h3 e he)]
        simp
      · rw [if_neg (fun h => hk h.symm), if_neg hk]
  · have e : putL l k v = A ++ ⟨k, v⟩ :: B := by
      unfold putL hasK
      rw [h5, ← h2, h1]
      simp
    rw [e]
    rw [h1, List.pairwise_append, List.pairwise_cons] at pp
    constructor
    · unfold Rise
      rw [List.pairwise_append, List.pairwise_cons]
      refine ⟨pp.1, ⟨fun x hx => h4 x hx, pp.2.1.2⟩, fun a ha b hb => ?_⟩
      rcases List.mem_cons.1 hb with rfl | hb
      · exact h3 a ha
      · exact pp.2.2 a ha b (List.mem_cons_of_mem _ hb)
    · rw [getV_append, getV_cons, h1, getV_append, getV_cons]
      by_cases hk : k' = k
      · subst hk
        rw [getV_none.2 fun e he => fun e' => k_irrefl _ (e' ▸ h3 e he)]
        simp
      · rw [if_neg (fun h => hk h.symm), if_neg hk, if_neg (fun h => hk h.symm)]
theorem Rise.del_at {l : List En} (hl : Rise l) (k : List UInt8) (k' : List UInt8) : Rise (delL l k) ∧ getV (delL l k) k' = if k' = k then none else getV l k' := by
  have pp := hl
  unfold Rise at pp
  rcases hl.split k with ⟨A, B, h1, h2, h3, h4, h5⟩ | ⟨A, v0, B, h1, h2, h3, h4, h5⟩
  · have e : delL l k = l := by unfold delL hasK; rw [h5]; simp
    rw [e]
    refine ⟨hl, ?_⟩
    by_cases hk : k' = k
    · subst hk; rw [h5]; simp
    · rw [if_neg hk]
  · have e : delL l k = A ++ B := by
      unfold delL hasK
      rw [h5, ← h2, h1]
      simp
    rw [e]
    rw [h1, List.pairwise_append, List.pairwise_cons] at pp
    constructor
    · unfold Rise
      rw [List.pairwise_append]
      exact ⟨pp.1, pp.2.1.2, fun a ha b hb => pp.2.2 a ha b (List.mem_cons_of_mem _ hb)⟩
    · rw [getV_append, h1, getV_append, getV_cons]
      by_cases hk : k' = k
      · subst hk
        rw [getV_none.2 fun e he => fun e' => k_irrefl _ (e' ▸ h3 e he), getV_none.2 fun e he => fun e' => k_irrefl _ (e' ▸ h4 e he)]
        simp
      · rw [if_neg hk, if_neg (fun h => hk h.symm)]
theorem Rise.filter {l : List En} (hl : Rise l) (p : En → Bool) : Rise (l.filter p) := List.Pairwise.filter p hl
theorem hasK_iff {l : List En} {k : List UInt8} : hasK l k = true ↔ ∃ v, getV l k = some v := by
  unfold hasK
  exact Option.isSome_iff_exists

/-- taking keys away one after the other -/
theorem dels_all (ds : List (List UInt8)) : ∀ z, Rise z → Rise (ds.foldl delL z) ∧ ∀ k', getV (ds.foldl delL z) k' = if k' ∈ ds then none else getV z k' := by
  induction ds with
  | nil => exact fun z hz => ⟨hz, fun k' => by simp⟩
  | cons d ds ih =>
    intro z hz
    obtain ⟨h1, h2⟩ := ih (delL z d) (hz.del_at d d).1
    refine ⟨h1, fun k' => ?_⟩
    rw [List.foldl_cons, h2, (hz.del_at d k').2]
    by_cases a : k' = d <;> by_cases b : k' ∈ ds <;> simp [a, b]
/-- putting entries one after the other -/
theorem puts_all (ps : List En) : ∀ z, Rise z → Rise ps → Rise (ps.foldl (fun z e => putL z e.k e.v) z) ∧ ∀ k', getV (ps.foldl (fun z e => putL z e.k e.v) z) k' = (getV ps k').or (getV z k') := by
  induction ps with
  | nil => exact fun z hz _ => ⟨hz, fun k' => by simp [getV_nil]⟩
  | cons p ps ih =>
    intro z hz hp
    obtain ⟨h1, h2⟩ := ih (putL z p.k p.v) (hz.set_at p.k p.v p.k).1 hp.tail
    refine ⟨h1, fun k' => ?_⟩
    rw [List.foldl_cons, h2, (hz.set_at p.k p.v k').2, getV_cons]
    by_cases a : k' = p.k
    · subst a
      rw [getV_none.2 fun e he => fun e' => k_irrefl _ (by have := hp.head e he; rw [e'] at this; exact this)]
      simp
    · rw [if_neg a, if_neg (fun h => a h.symm)]
theorem mem_gone {l m : List En} {e : En} : e ∈ goneL l m ↔ e ∈ l ∧ getV m e.k = none := by unfold goneL; rw [List.mem_filter]; simp
theorem mem_new {l m : List En} {e : En} : e ∈ newL l m ↔ e ∈ l ∧ getV m e.k ≠ some e.v := by unfold newL; rw [List.mem_filter]; simp
/-- one list becomes the other one -/
theorem turned {x y : List En} (hx : Rise x) (hy : Rise y) : (newL y x).foldl (fun z e => putL z e.k e.v) (((goneL x y).map (·.k)).foldl delL x) = y := by
  have hn : Rise (newL y x) := hy.filter _
  obtain ⟨d1, d2⟩ := dels_all ((goneL x y).map (·.k)) x hx
  obtain ⟨p1, p2⟩ := puts_all (newL y x) _ d1 hn
  refine p1.get_ext hy fun k => ?_
  rw [p2, d2]
  cases hyk : getV y k with
  | none =>
    have e1 : getV (newL y x) k = none := getV_none.2 fun e he e' => by
      have := getV_of_mem hy (mem_new.1 he).1
      rw [e', hyk] at this
      cases this
    rw [e1]
    by_cases hm : k ∈ (goneL x y).map (·.k)
    · simp [hm]
    · rw [if_neg hm]
      cases hxk : getV x k with
      | none => rfl
      | some v => exact absurd (List.mem_map.2 ⟨⟨k, v⟩, mem_gone.2 ⟨getV_mem hxk, hyk⟩, rfl⟩) hm
  | some v =>
    by_cases hxk : getV x k = some v
    · have e1 : getV (newL y x) k = none := getV_none.2 fun e he e' => by
        have h1 := getV_of_mem hy (mem_new.1 he).1
        have h2 := (mem_new.1 he).2
        rw [e', hyk] at h1
        rw [e', hxk] at h2
        exact h2 h1
      have e2 : k ∉ (goneL x y).map (·.k) := fun hm => by
        obtain ⟨e, he, rfl⟩ := List.mem_map.1 hm
        have := (mem_gone.1 he).2
        rw [hyk] at this
        cases this
      rw [e1, if_neg e2, hxk]
      rfl
    · rw [(getV_iff hn).2 (mem_new.2 ⟨getV_mem hyk, hxk⟩)]
      rfl
/-- each key that is taken away is there -/
theorem dels_is {x y : List En} (hx : Rise x) (i : Nat) (hi : i < (goneL x y).length) :
    hasK ((((goneL x y).map (·.k)).take i).foldl delL x) (((goneL x y)[i]'hi).k) = true := by
  obtain ⟨d1, d2⟩ := dels_all (((goneL x y).map (·.k)).take i) x hx
  rw [hasK_iff]
  have hg : Rise (goneL x y) := hx.filter _
  refine ⟨((goneL x y)[i]'hi).v, ?_⟩
  rw [d2, if_neg, getV_of_mem hx (mem_gone.1 (List.getElem_mem hi)).1]
  intro hm
  obtain ⟨j, hj, e⟩ := List.getElem_of_mem hm
  rw [List.length_take, List.length_map] at hj
  rw [List.getElem_take, List.getElem_map] at e
  have := (List.pairwise_iff_getElem.1 hg) j i (by omega) hi (by omega)
  rw [e] at this
  exact k_irrefl _ this
theorem gone_new {x y : List En} {e : En} (h : e ∈ goneL x y) : e ∈ newL x y := mem_new.2 ⟨(mem_gone.1 h).1, by rw [(mem_gone.1 h).2]; simp⟩
theorem nothing {x y : List En} (hx : Rise x) (hy : Rise y) : (newL y x).length + (goneL x y).length = 0 ↔ x = y := by
  constructor
  · intro h
    have h1 : newL y x = [] := List.eq_nil_of_length_eq_zero (by omega)
    have h2 : goneL x y = [] := List.eq_nil_of_length_eq_zero (by omega)
    have := turned hx hy
    rw [h1, h2] at this
    exact this
  · rintro rfl
    have h1 : newL x x = [] := by
      unfold newL
      rw [List.filter_eq_nil_iff]
      intro e he
      simp [getV_of_mem hx he]
    have h2 : goneL x x = [] := by
      unfold goneL
      rw [List.filter_eq_nil_iff]
      intro e he
      simp [getV_of_mem hx he]
    rw [h1, h2]
    rfl
/-- of the keys in both, those that have something else -/
def otherL (l m : List En) : List En := l.filter fun e => decide (getV m e.k ≠ some e.v) && decide (getV m e.k ≠ none)
theorem new_count (l m : List En) : (newL l m).length = (goneL l m).length + (otherL l m).length := by
  unfold newL goneL otherL
  induction l with
  | nil => rfl
  | cons e l ih =>
    simp only [List.filter_cons]
    by_cases h : getV m e.k = none
    · simp [h] at ih ⊢; omega
    · by_cases h' : getV m e.k = some e.v
      · simp [h'] at ih ⊢; omega
      · simp [h, h'] at ih ⊢; omega
theorem other_count {x y : List En} (hx : Rise x) (hy : Rise y) : (otherL x y).length = (otherL y x).length := by
  have R : ∀ l : List En, Rise l → Rise (l.map fun e => ⟨e.k, []⟩) := fun l hl => by
    unfold Rise
    rw [List.pairwise_map]
    exact hl
  have S : ∀ x y : List En, Rise x → Rise y → ∀ e : En, e ∈ (otherL x y).map (fun e => (⟨e.k, []⟩ : En)) → e ∈ (otherL y x).map (fun e => (⟨e.k, []⟩ : En)) := by
    intro x y hx hy e he
    obtain ⟨a, ha, rfl⟩ := List.mem_map.1 he
    unfold otherL at ha
    rw [List.mem_filter] at ha
    simp only [Bool.and_eq_true, decide_eq_true_eq] at ha
    obtain ⟨h1, h2, h3⟩ := ha
    obtain ⟨v, hv⟩ := Option.ne_none_iff_exists'.1 h3
    refine List.mem_map.2 ⟨⟨a.k, v⟩, ?_, rfl⟩
    unfold otherL
    rw [List.mem_filter]
    simp only [Bool.and_eq_true, decide_eq_true_eq]
    have hxa := getV_of_mem hx h1
    refine ⟨getV_mem hv, ?_, by rw [hxa]; simp⟩
    rw [hxa]
    intro e
    rw [hv] at h2
    exact h2 (by rw [← e])
  have := (R _ (hx.filter _ : Rise (otherL x y))).ext (R _ (hy.filter _ : Rise (otherL y x))) fun e => ⟨S x y hx hy e, S y x hy hx e⟩
  have h := congrArg List.length this
  rw [List.length_map, List.length_map] at h
  exact h
theorem counts {x y : List En} (hx : Rise x) (hy : Rise y) : ((newL x y).length : Int) - (goneL x y).length = (newL y x).length - (goneL y x).length := by
  have h1 := new_count x y
  have h2 := new_count y x
  have h3 := other_count hx hy
  omega
end Go.Proofs.YtjakdbahopbggaaGreatDoor
