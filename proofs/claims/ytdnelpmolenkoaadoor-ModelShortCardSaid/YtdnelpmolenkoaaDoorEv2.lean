/- The evaluator's data: what its trees, lists and abstract values stand for. Conditions: none. -/
import Derived.Test.YtdnelpmolenkoaaDoorEv1
import Derived.Below
namespace Go.Ev
open Go.RowKit

@[simp] theorem sel_true {α : Type} (x y : α) : sel true x y = x := rfl
@[simp] theorem sel_false {α : Type} (x y : α) : sel false x y = y := rfl
theorem sel_some {α : Type} {b : Bool} {x : Option α} {v : α} (h : sel b x none = some v) : b = true ∧ x = some v := by
  cases b
  · cases h
  · exact ⟨rfl, h⟩
@[simp] theorem bindO_none {α β : Type} (f : α → Option β) : bindO none f = none := rfl
@[simp] theorem bindO_some' {α β : Type} (x : α) (f : α → Option β) : bindO (some x) f = f x := rfl
theorem bindO_some {α β : Type} {x : Option α} {f : α → Option β} {v : β} (h : bindO x f = some v) : ∃ y, x = some y ∧ f y = some v := by
  cases x with
  | none => cases h
  | some y => exact ⟨y, rfl, h⟩

theorem kEq_eq {a b : IntKind} (h : kEq a b = true) : a = b := by
  cases a <;> cases b <;> first | rfl | cases h

-- trees

section
variable {α : Type}
theorem get_nil (i : Nat) : (T.nil : T α).get i = none := rfl
theorem get_zero (v : Option α) (l r : T α) : (T.node v l r).get 0 = v := rfl
theorem get_odd (v : Option α) (l r : T α) (a : Nat) : (T.node v l r).get (2 * a + 1) = l.get a := by
  have h1 : Nat.beq (2 * a + 1) 0 = false := rfl
  have h2 : Nat.beq (Nat.mod (2 * a + 1) 2) 1 = true := by
    rw [Nat.beq_eq]; show (2 * a + 1) % 2 = 1; omega
  have h3 : Nat.div (2 * a + 1) 2 = a := by show (2 * a + 1) / 2 = a; omega
  show Bool.rec (motive := fun _ => Option α) (Bool.rec (motive := fun _ => Option α) _ (l.get (Nat.div (2 * a + 1) 2)) (Nat.beq (Nat.mod (2 * a + 1) 2) 1)) v (Nat.beq (2 * a + 1) 0) = _
  rw [h1, h2, h3]
theorem get_even (v : Option α) (l r : T α) (a : Nat) : (T.node v l r).get (2 * a + 2) = r.get a := by
  have h1 : Nat.beq (2 * a + 2) 0 = false := rfl
  have h2 : Nat.beq (Nat.mod (2 * a + 2) 2) 1 = false := by
    rw [← Bool.not_eq_true, Nat.beq_eq]; show ¬ (2 * a + 2) % 2 = 1; omega
  have h3 : Nat.sub (Nat.div (2 * a + 2) 2) 1 = a := by show (2 * a + 2) / 2 - 1 = a; omega
  show Bool.rec (motive := fun _ => Option α) (Bool.rec (motive := fun _ => Option α) (r.get (Nat.sub (Nat.div (2 * a + 2) 2) 1)) _ (Nat.beq (Nat.mod (2 * a + 2) 2) 1)) v (Nat.beq (2 * a + 2) 0) = _
  rw [h1, h2, h3]
theorem left_eq (v : Option α) (r l : T α) : T.left v r l = .node v l r := by cases l <;> rfl
theorem right_eq (v : Option α) (l r : T α) : T.right v l r = .node v l r := by cases r <;> rfl

/-- a tree's root and its two parts -/
def rootOf : T α → Option α | .nil => none | .node v _ _ => v
def leftOf : T α → T α | .nil => .nil | .node _ l _ => l
def rightOf : T α → T α | .nil => .nil | .node _ _ r => r
theorem get_parts0 (t : T α) : t.get 0 = rootOf t := by cases t <;> rfl
theorem get_parts1 (t : T α) (a : Nat) : t.get (2 * a + 1) = (leftOf t).get a := by
  cases t with
  | nil => rfl
  | node v l r => exact get_odd v l r a
theorem get_parts2 (t : T α) (a : Nat) : t.get (2 * a + 2) = (rightOf t).get a := by
  cases t with
  | nil => rfl
  | node v l r => exact get_even v l r a

theorem set_zero (f : Nat) (t : T α) (x : Option α) : T.set (f + 1) t 0 x = .node x (leftOf t) (rightOf t) := by cases t <;> rfl
theorem set_odd (f : Nat) (t : T α) (a : Nat) (x : Option α) : T.set (f + 1) t (2 * a + 1) x = .node (rootOf t) (T.set f (leftOf t) a x) (rightOf t) := by
  have h1 : Nat.beq (2 * a + 1) 0 = false := rfl
  have h2 : Nat.beq (Nat.mod (2 * a + 1) 2) 1 = true := by
    rw [Nat.beq_eq]; show (2 * a + 1) % 2 = 1; omega
  have h3 : Nat.div (2 * a + 1) 2 = a := by show (2 * a + 1) / 2 = a; omega
  cases t with
  | nil =>
    show Bool.rec (motive := fun _ => T α) (Bool.rec (motive := fun _ => T α) _ (T.left none .nil (T.set f .nil (Nat.div (2 * a + 1) 2) x)) (Nat.beq (Nat.mod (2 * a + 1) 2) 1)) (.node x .nil .nil) (Nat.beq (2 * a + 1) 0) = _
    rw [h1, h2, h3]; exact left_eq _ _ _
  | node v l r =>
    show Bool.rec (motive := fun _ => T α) (Bool.rec (motive := fun _ => T α) _ (T.left v r (T.set f l (Nat.div (2 * a + 1) 2) x)) (Nat.beq (Nat.mod (2 * a + 1) 2) 1)) (.node x l r) (Nat.beq (2 * a + 1) 0) = _
    rw [h1, h2, h3]; exact left_eq _ _ _
theorem set_even (f : Nat) (t : T α) (a : Nat) (x : Option α) : T.set (f + 1) t (2 * a + 2) x = .node (rootOf t) (leftOf t) (T.set f (rightOf t) a x) := by
  have h1 : Nat.beq (2 * a + 2) 0 = false := rfl
  have h2 : Nat.beq (Nat.mod (2 * a + 2) 2) 1 = false := by
    rw [← Bool.not_eq_true, Nat.beq_eq]; show ¬ (2 * a + 2) % 2 = 1; omega
  have h3 : Nat.sub (Nat.div (2 * a + 2) 2) 1 = a := by show (2 * a + 2) / 2 - 1 = a; omega
  cases t with
  | nil =>
    show Bool.rec (motive := fun _ => T α) (Bool.rec (motive := fun _ => T α) (T.right none .nil (T.set f .nil (Nat.sub (Nat.div (2 * a + 2) 2) 1) x)) _ (Nat.beq (Nat.mod (2 * a + 2) 2) 1)) (.node x .nil .nil) (Nat.beq (2 * a + 2) 0) = _
    rw [h1, h2, h3]; exact right_eq _ _ _
  | node v l r =>
    show Bool.rec (motive := fun _ => T α) (Bool.rec (motive := fun _ => T α) (T.right v l (T.set f r (Nat.sub (Nat.div (2 * a + 2) 2) 1) x)) _ (Nat.beq (Nat.mod (2 * a + 2) 2) 1)) (.node x l r) (Nat.beq (2 * a + 2) 0) = _
    rw [h1, h2, h3]; exact right_eq _ _ _

theorem three (i : Nat) : i = 0 ∨ (∃ a, i = 2 * a + 1) ∨ (∃ a, i = 2 * a + 2) := by
  rcases Nat.eq_zero_or_pos i with h | h
  · exact .inl h
  · rcases Nat.mod_two_eq_zero_or_one i with h2 | h2
    · exact .inr (.inr ⟨i / 2 - 1, by omega⟩)
    · exact .inr (.inl ⟨i / 2, by omega⟩)

/-- what is read behind a set is what was set, or what was there -/
theorem get_set (f : Nat) : ∀ (t : T α) (i : Nat) (x : Option α) (j : Nat) (u : α), (T.set f t i x).get j = some u → (j = i ∧ x = some u) ∨ (j ≠ i ∧ t.get j = some u) := by
  induction f with
  | zero => intro t i x j u h; cases h
  | succ f ih =>
    intro t i x j u h
    rcases three i with rfl | ⟨a, rfl⟩ | ⟨a, rfl⟩
    · rw [set_zero] at h
      rcases three j with rfl | ⟨b, rfl⟩ | ⟨b, rfl⟩
      · rw [get_zero] at h; exact .inl ⟨rfl, h⟩
      · rw [get_odd] at h; exact .inr ⟨by omega, by rw [get_parts1]; exact h⟩
      · rw [get_even] at h; exact .inr ⟨by omega, by rw [get_parts2]; exact h⟩
    · rw [set_odd] at h
      rcases three j with rfl | ⟨b, rfl⟩ | ⟨b, rfl⟩
      · rw [get_zero] at h; exact .inr ⟨by omega, by rw [get_parts0]; exact h⟩
      · rw [get_odd] at h
        rcases ih _ _ _ _ _ h with ⟨rfl, hx⟩ | ⟨hne, hx⟩
        · exact .inl ⟨rfl, hx⟩
        · exact .inr ⟨by omega, by rw [get_parts1]; exact hx⟩
      · rw [get_even] at h; exact .inr ⟨by omega, by rw [get_parts2]; exact h⟩
    · rw [set_even] at h
      rcases three j with rfl | ⟨b, rfl⟩ | ⟨b, rfl⟩
      · rw [get_zero] at h; exact .inr ⟨by omega, by rw [get_parts0]; exact h⟩
      · rw [get_odd] at h; exact .inr ⟨by omega, by rw [get_parts1]; exact h⟩
      · rw [get_even] at h
        rcases ih _ _ _ _ _ h with ⟨rfl, hx⟩ | ⟨hne, hx⟩
        · exact .inl ⟨rfl, hx⟩
        · exact .inr ⟨by omega, by rw [get_parts2]; exact hx⟩
theorem get_put {t : T α} {i : Nat} {x : α} {j : Nat} {u : α} (h : (t.put i x).get j = some u) : (j = i ∧ x = u) ∨ (j ≠ i ∧ t.get j = some u) := by
  rcases get_set _ _ _ _ _ _ h with ⟨a, b⟩ | h
  · exact .inl ⟨a, by injection b⟩
  · exact .inr h
theorem get_del {t : T α} {i : Nat} {j : Nat} {u : α} (h : (t.del i).get j = some u) : j ≠ i ∧ t.get j = some u := by
  rcases get_set _ _ _ _ _ _ h with ⟨_, b⟩ | h
  · cases b
  · exact h
end

-- forcing turns nothing

@[simp] theorem forceN_eq {β : Type} (n : Nat) (k : Nat → β) : forceN n k = k n := by cases n <;> rfl
@[simp] theorem forceI_eq {β : Type} (n : Int) (k : Int → β) : forceI n k = k n := by
  cases n with
  | ofNat m => exact forceN_eq m (fun m => k (.ofNat m))
  | negSucc m => exact forceN_eq m (fun m => k (.negSucc m))
@[simp] theorem forceB_eq {β : Type} (b : Bool) (k : Bool → β) : forceB b k = k b := by cases b <;> rfl
@[simp] theorem forceV_eq {β : Type} (v : Value) (k : Value → β) : forceV v k = k v := by
  cases v <;> simp [forceV]
@[simp] theorem forceA_eq {β : Type} (v : AV) (k : AV → β) : forceA v k = k v := by
  cases v <;> simp [forceA]

theorem putAll_nil (t : T AV) (i : Nat) : putAll t i [] = t := rfl
theorem putAll_cons (t : T AV) (i : Nat) (v : AV) (vs : List AV) : putAll t i (v :: vs) = putAll (t.put i v) (i + 1) vs := by
  show forceA v (fun v => putAll (t.put i v) (Nat.succ i) vs) = _
  rw [forceA_eq]
theorem get_putAll : ∀ (l : List AV) (t : T AV) (i j : Nat) (u : AV), (putAll t i l).get j = some u → (i ≤ j ∧ l[j - i]? = some u) ∨ ((j < i ∨ i + l.length ≤ j) ∧ t.get j = some u)
  | [], t, i, j, u, h => by
    rw [putAll_nil] at h
    exact .inr ⟨by simp; omega, h⟩
  | v :: vs, t, i, j, u, h => by
    rw [putAll_cons] at h
    rcases get_putAll vs _ _ _ _ h with ⟨h1, h2⟩ | ⟨h1, h2⟩
    · refine .inl ⟨by omega, ?_⟩
      have : j - i = (j - (i + 1)) + 1 := by omega
      rw [this, List.getElem?_cons_succ]; exact h2
    · rcases get_put h2 with ⟨rfl, rfl⟩ | ⟨hne, h3⟩
      · exact .inl ⟨Nat.le_refl _, by simp⟩
      · refine .inr ⟨?_, h3⟩
        simp only [List.length_cons]
        omega
theorem getAll_zero (t : T AV) (i : Nat) : getAll t i 0 = some [] := rfl
theorem getAll_succ (t : T AV) (i n : Nat) : getAll t i (n + 1) = bindO (t.get i) fun v => bindO (getAll t (i + 1) n) fun vs => some (v :: vs) := rfl
theorem getAll_spec : ∀ (n : Nat) (t : T AV) (i : Nat) (vs : List AV), getAll t i n = some vs → vs.length = n ∧ ∀ (k : Nat) (v : AV), vs[k]? = some v → t.get (i + k) = some v
  | 0, t, i, vs, h => by
    rw [getAll_zero] at h
    injection h with h
    subst h
    exact ⟨rfl, fun k v hk => by simp at hk⟩
  | n + 1, t, i, vs, h => by
    rw [getAll_succ] at h
    obtain ⟨v, hv, h⟩ := bindO_some h
    obtain ⟨ws, hw, h⟩ := bindO_some h
    injection h with h
    subst h
    obtain ⟨hl, hk⟩ := getAll_spec n t (i + 1) ws hw
    refine ⟨by simp [hl], fun k u hu => ?_⟩
    cases k with
    | zero => simp at hu; subst hu; exact hv
    | succ k =>
      rw [List.getElem?_cons_succ] at hu
      have := hk k u hu
      rw [← this]
      congr 1
      omega

-- what abstract values stand for

structure G where
  blk : Nat → Option (Nat × Nat)
  cap : Nat → Option Nat

def G.le (γ γ' : G) : Prop := (∀ b x, γ.blk b = some x → γ'.blk b = some x) ∧ (∀ t k, γ.cap t = some k → γ'.cap t = some k)
theorem G.le_refl (γ : G) : γ.le γ := ⟨fun _ _ h => h, fun _ _ h => h⟩
theorem G.le.trans {a b c : G} (h : a.le b) (k : b.le c) : a.le c := ⟨fun b x hx => k.1 b x (h.1 b x hx), fun t x hx => k.2 t x (h.2 t x hx)⟩

inductive CapR (γ : G) : Cap → Nat → Prop where
  | known (n : Nat) : CapR γ (.known n) n
  | unk {t s k : Nat} : γ.cap t = some k → CapR γ (.unk t s) (k - s)

inductive R (γ : G) : AV → Value → Prop where
  | lit (v : Value) : R γ (.lit v) v
  | ptr {b off B O : Nat} : γ.blk b = some (B, O) → R γ (.ptr b off) (.pointer (some ⟨B, O + off, none⟩))
  | sl {b off len B O c : Nat} {cap : Cap} : γ.blk b = some (B, O) → CapR γ cap c → R γ (.sl b off len cap) (.slice (some ⟨B, O + off, none⟩) len c)
  | agg {l : List AV} {cs : List Value} : l.length = cs.length → (∀ (i : Nat) (v : AV) (c : Value), l[i]? = some v → cs[i]? = some c → R γ v c) → R γ (.agg l) (.agg ⟨cs⟩)
  | tup {l : List AV} {cs : List Value} : l.length = cs.length → (∀ (i : Nat) (v : AV) (c : Value), l[i]? = some v → cs[i]? = some c → R γ v c) → R γ (.tup l) (.tuple ⟨cs⟩)
  | fn {f : Fn} {l m : List AV} {cs ds : List Value} : l.length = cs.length → (∀ (i : Nat) (v : AV) (c : Value), l[i]? = some v → cs[i]? = some c → R γ v c) →
      m.length = ds.length → (∀ (i : Nat) (v : AV) (c : Value), m[i]? = some v → ds[i]? = some c → R γ v c) → R γ (.fn f l m) (.func f ⟨cs⟩ ⟨ds⟩)
  | ifc {t : TypeId} {v : AV} {c : Value} : R γ v c → R γ (.ifc t v) (.iface t c)

def Rs (γ : G) (l : List AV) (cs : List Value) : Prop := l.length = cs.length ∧ ∀ (i : Nat) (v : AV) (c : Value), l[i]? = some v → cs[i]? = some c → R γ v c

theorem CapR.mono {γ γ' : G} (h : γ.le γ') {c : Cap} {n : Nat} (k : CapR γ c n) : CapR γ' c n := by
  cases k with
  | known => exact .known _
  | unk hk => exact .unk (h.2 _ _ hk)
theorem R.mono {γ γ' : G} (h : γ.le γ') {v : AV} {c : Value} (r : R γ v c) : R γ' v c := by
  induction r with
  | lit v => exact .lit v
  | ptr hb => exact .ptr (h.1 _ _ hb)
  | sl hb hc => exact .sl (h.1 _ _ hb) (hc.mono h)
  | agg hl _ ih => exact .agg hl ih
  | tup hl _ ih => exact .tup hl ih
  | fn hl _ hm _ ih1 ih2 => exact .fn hl ih1 hm ih2
  | ifc _ ih => exact .ifc ih
theorem Rs.mono {γ γ' : G} (h : γ.le γ') {l : List AV} {cs : List Value} (r : Rs γ l cs) : Rs γ' l cs := ⟨r.1, fun i v c hv hc => (r.2 i v c hv hc).mono h⟩
theorem Rs.nil (γ : G) : Rs γ [] [] := ⟨rfl, fun i v c h => by simp at h⟩
theorem Rs.cons {γ : G} {v : AV} {c : Value} {l : List AV} {cs : List Value} (h : R γ v c) (hs : Rs γ l cs) : Rs γ (v :: l) (c :: cs) := by
  refine ⟨by simp [hs.1], fun i u d hu hd => ?_⟩
  cases i with
  | zero => simp at hu hd; subst hu; subst hd; exact h
  | succ i => simp at hu hd; exact hs.2 i u d hu hd
theorem Rs.cons_inv {γ : G} {v : AV} {l : List AV} {cs : List Value} (h : Rs γ (v :: l) cs) : ∃ c r, cs = c :: r ∧ R γ v c ∧ Rs γ l r := by
  cases cs with
  | nil => have := h.1; simp at this
  | cons c r =>
    refine ⟨c, r, rfl, h.2 0 v c rfl rfl, ?_, fun i u d hu hd => h.2 (i + 1) u d (by simpa using hu) (by simpa using hd)⟩
    have := h.1
    simpa using this
theorem Rs.nil_inv {γ : G} {cs : List Value} (h : Rs γ [] cs) : cs = [] := List.eq_nil_of_length_eq_zero (by have := h.1; simpa using this.symm)
theorem Rs.append {γ : G} {l m : List AV} {cs ds : List Value} (h : Rs γ l cs) (k : Rs γ m ds) : Rs γ (l ++ m) (cs ++ ds) := by
  refine ⟨by simp [h.1, k.1], fun i u d hu hd => ?_⟩
  by_cases hi : i < l.length
  · rw [List.getElem?_append_left hi] at hu
    rw [List.getElem?_append_left (by have := h.1; omega)] at hd
    exact h.2 i u d hu hd
  · rw [List.getElem?_append_right (by omega)] at hu
    rw [List.getElem?_append_right (by have := h.1; omega), ← h.1] at hd
    exact k.2 _ u d hu hd
theorem Rs.lits (γ : G) (cs : List Value) : Rs γ (cs.map .lit) cs := by
  refine ⟨by simp, fun i v c hv hc => ?_⟩
  rw [List.getElem?_map, hc] at hv
  simp at hv
  subst hv
  exact .lit c
theorem Rs.at_ {γ : G} {l : List AV} {cs : List Value} (h : Rs γ l cs) {i : Nat} {v : AV} (hv : l[i]? = some v) : ∃ c, cs[i]? = some c ∧ R γ v c := by
  have hi : i < l.length := (List.getElem?_eq_some_iff.1 hv).1
  have hj : i < cs.length := by have := h.1; omega
  exact ⟨cs[i], List.getElem?_eq_getElem hj, h.2 i v _ hv (List.getElem?_eq_getElem hj)⟩
theorem Rs.drop {γ : G} {l : List AV} {cs : List Value} (h : Rs γ l cs) (n : Nat) : Rs γ (l.drop n) (cs.drop n) :=
  ⟨by simp [h.1], fun i v c hv hc => h.2 (n + i) v c (by simpa using hv) (by simpa using hc)⟩
theorem Rs.take {γ : G} {l : List AV} {cs : List Value} (h : Rs γ l cs) (n : Nat) : Rs γ (l.take n) (cs.take n) := by
  refine ⟨by simp [h.1], fun i v c hv hc => ?_⟩
  rw [List.getElem?_take] at hv hc
  split at hv
  · rename_i hi
    rw [if_pos hi] at hc
    exact h.2 i v c hv hc
  · cases hv
theorem Rs.set {γ : G} {l : List AV} {cs : List Value} (h : Rs γ l cs) (n : Nat) {v : AV} {c : Value} (hv : R γ v c) : Rs γ (l.set n v) (cs.set n c) := by
  refine ⟨by simp [h.1], fun i u d hu hd => ?_⟩
  rw [List.getElem?_set] at hu hd
  by_cases hn : n = i
  · subst hn
    simp only [if_true] at hu hd
    split at hu
    · rename_i hl
      rw [if_pos (by have := h.1; omega)] at hd
      injection hu with hu
      injection hd with hd
      subst hu; subst hd
      exact hv
    · cases hu
  · rw [if_neg hn] at hu hd
    exact h.2 i u d hu hd

theorem allLit_spec {γ : G} : ∀ (l : List AV) (vs : List Value) (cs : List Value), allLit l = some vs → Rs γ l cs → cs = vs
  | [], vs, cs, h, hr => by
    simp only [allLit] at h
    injection h with h
    subst h
    exact hr.nil_inv
  | v :: r, vs, cs, h, hr => by
    cases v with
    | lit v =>
      simp only [allLit] at h
      split at h
      · rename_i us hus
        injection h with h
        subst h
        obtain ⟨c, d, rfl, hc, hd⟩ := hr.cons_inv
        cases hc
        rw [allLit_spec r us d hus hd]
      · cases h
    | _ => cases h
theorem mkAgg_R {γ : G} {l : List AV} {cs : List Value} (h : Rs γ l cs) : R γ (mkAgg l) (.agg ⟨cs⟩) := by
  unfold mkAgg
  split
  · rename_i vs hvs
    rw [allLit_spec l vs cs hvs h]
    exact .lit _
  · exact .agg h.1 h.2
theorem mkTup_R {γ : G} {l : List AV} {cs : List Value} (h : Rs γ l cs) : R γ (mkTup l) (.tuple ⟨cs⟩) := by
  unfold mkTup
  split
  · rename_i vs hvs
    rw [allLit_spec l vs cs hvs h]
    exact .lit _
  · exact .tup h.1 h.2
theorem cellsOf_R {γ : G} {v : AV} {c : Value} (h : R γ v c) : Rs γ (cellsOf v) c.cells.toList := by
  cases h with
  | lit =>
    cases c <;> first | exact Rs.lits γ _ | exact (Rs.nil γ).cons (.lit _)
  | ptr hb => exact (Rs.nil γ).cons (.ptr hb)
  | sl hb hc => exact (Rs.nil γ).cons (.sl hb hc)
  | agg hl hr => exact ⟨hl, hr⟩
  | tup hl hr => exact (Rs.nil γ).cons (.tup hl hr)
  | fn a b c d => exact (Rs.nil γ).cons (.fn a b c d)
  | ifc hv => exact (Rs.nil γ).cons (.ifc hv)
theorem oneA_R {γ : G} {v : AV} {c : Value} (h : R γ v c) (h1 : oneA v = true) : c.oneCell' = true := by
  cases h with
  | lit => cases c <;> first | rfl | (simp [oneA] at h1)
  | agg _ _ => simp [oneA] at h1
  | tup _ _ => simp [oneA] at h1
  | _ => rfl
end Go.Ev
