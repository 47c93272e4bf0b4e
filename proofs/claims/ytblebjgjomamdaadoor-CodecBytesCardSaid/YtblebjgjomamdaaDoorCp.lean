/- What is read without anything bad, written anew, are the bytes (plain). Conditions: none. -/
import Derived.Test.YtblebjgjomamdaaDoorCd2
import Derived.Test.YtblebjgjomamdaaDoorCe
namespace Go.Proofs.YtblebjgjomamdaaDoor
open Go.RowKit Go.Ow Go.Wi

theorem flat_row {α : Type} (F : (Nat → α) → Nat → Nat → List UInt8) (B : α → List UInt8) (h0 : ∀ f k, F f k 0 = []) (h1 : ∀ f k n, F f k (n + 1) = B (f k) ++ F f (k + 1) n) (f : Nat → α) : ∀ n k, F f k n = ((List.range' k n).map f).flatMap B
  | 0, k => by rw [h0]; rfl
  | n + 1, k => by rw [h1, flat_row F B h0 h1 f n (k + 1), List.range'_succ]; simp
theorem any_row {α : Type} (F : (Nat → α) → Nat → Nat → Bool) (B : α → Bool) (h0 : ∀ f k, F f k 0 = false) (h1 : ∀ f k n, F f k (n + 1) = (B (f k) || F f (k + 1) n)) (f : Nat → α) : ∀ n k, F f k n = ((List.range' k n).map f).any B
  | 0, k => by rw [h0]; rfl
  | n + 1, k => by rw [h1, any_row F B h0 h1 f n (k + 1), List.range'_succ]; simp
theorem vsB_row (f : Nat → Va) (n : Nat) : vsB f 0 n = (rowL f n).flatMap varB := by rw [flat_row vsB varB (fun _ _ => rfl) (fun _ _ _ => rfl), rowL, List.range_eq_range']
theorem txts_row (f : Nat → ByteArray) (n : Nat) : txts f 0 n = (rowL f n).flatMap txt := by rw [flat_row txts txt (fun _ _ => rfl) (fun _ _ _ => rfl), rowL, List.range_eq_range']
theorem nodsB_row (f : Nat → Nod) (n : Nat) : nodsB f 0 n = (rowL f n).flatMap nodB := by rw [flat_row nodsB nodB (fun _ _ => rfl) (fun _ _ _ => rfl), rowL, List.range_eq_range']
theorem flosB_row (f : Nat → Fl) (n : Nat) : flosB f 0 n = (rowL f n).flatMap floB := by rw [flat_row flosB floB (fun _ _ => rfl) (fun _ _ _ => rfl), rowL, List.range_eq_range']
theorem nodsW_row (f : Nat → Nod) (n : Nat) : nodsW f 0 n = (rowL f n).any nodW := by rw [any_row nodsW nodW (fun _ _ => rfl) (fun _ _ _ => rfl), rowL, List.range_eq_range']
theorem flosW_row (f : Nat → Fl) (n : Nat) : flosW f 0 n = (rowL f n).any floW := by rw [any_row flosW floW (fun _ _ => rfl) (fun _ _ _ => rfl), rowL, List.range_eq_range']
/-- a node's bytes by its data -/
def hd4 (d : Nd) : List Int := [d.kind, inc d.inn, inc d.on, d.event]
def hdB (d : Nd) : List UInt8 := txt d.name ++ (nums (nAt (hd4 d)) 0 4 ++ (txts (tAt [d.key, d.text, d.set]) 0 3 ++ numL (b2n d.breaks)))
def hdW (d : Nd) : Bool := numsW (nAt (hd4 d)) 0 4
def lsB {α : Type} (B : α → List UInt8) (l : List α) : List UInt8 := numL (l.length : Nat) ++ l.flatMap B
def ndB (p : PNod) : List UInt8 := hdB p.d ++ (lsB varB p.vs ++ lsB txt p.bs)
theorem nodB_pn (y : Nod) : nodB y = ndB y.pn := by
  unfold nodB ndB lsB hdB Nod.pn vsL nod4 hd4
  simp only [rowL_len, vsB_row, txts_row, List.append_assoc]
def ppB (p : PPr) : List UInt8 := txt p.name ++ (lsB varB p.vs ++ (lsB ndB p.ns ++ lsB floB p.fs))
theorem prB_pp (x : Pr) : prB x = ppB x.pp := by
  unfold prB ppB lsB Pr.pp vsL
  simp only [rowL_len, List.length_map, vsB_row, nodsB_row, flosB_row, List.append_assoc, List.flatMap_map]
  have : (rowL x.nf x.nn).flatMap nodB = (rowL x.nf x.nn).flatMap fun a => ndB a.pn := by
    congr 1
    funext y
    exact nodB_pn y
  rw [this]
theorem prW_pp (x : Pr) : prW x = ((x.pp.ns.any fun p => hdW p.d) || x.pp.fs.any floW) := by
  unfold prW Pr.pp
  simp only [nodsW_row, flosW_row, List.any_map]
  rfl

/-- nothing was wrong -/
def Wl {α : Type} (one : Cs → α × Cs) (B : α → List UInt8) (P : α → Prop) : Prop := ∀ c, c.r.e = 0 → (one c).2.bad = false → c.r.l = B (one c).1 ++ (one c).2.r.l ∧ (one c).2.r.e = 0 ∧ P (one c).1
theorem rnum_wl (c : Cs) (he : c.r.e = 0) (h : c.num.2.bad = false) : c.r.l = enc c.num.1 ++ c.num.2.r.l ∧ c.num.2.r.e = 0 := by
  simp only [Cs.num, Bool.or_eq_false_iff, decide_eq_false_iff_not, ne_eq, Decidable.not_not] at h ⊢
  obtain ⟨⟨l, e⟩, bad⟩ := c
  simp only at he h ⊢
  subst he
  cases hn : (Rs.mk l 0).num 1099511627776 with
  | mk p r2 =>
    obtain ⟨n, c⟩ := p
    rw [hn] at h
    simp only at h ⊢
    obtain ⟨_, rfl⟩ := h
    exact ⟨num_inv hn, (Rs.num_ok hn).1⟩
theorem rtext_wl (c : Cs) (he : c.r.e = 0) (h : c.text.2.bad = false) : c.r.l = txt ⟨c.text.1.toArray⟩ ++ c.text.2.r.l ∧ c.text.2.r.e = 0 := by
  simp only [Cs.text, Bool.or_eq_false_iff, decide_eq_false_iff_not, ne_eq, Decidable.not_not] at h ⊢
  obtain ⟨⟨l, e⟩, bad⟩ := c
  simp only at he h ⊢
  subst he
  cases hn : (Rs.mk l 0).text 4000 with
  | mk p r2 =>
    obtain ⟨t, c⟩ := p
    rw [hn] at h
    simp only at h ⊢
    obtain ⟨_, rfl⟩ := h
    refine ⟨?_, (Rs.text_ok hn).1⟩
    unfold txt
    rw [mk_size]
    simp only [List.append_assoc]
    exact (text_inv hn).1
theorem numL_nat {n : Nat} (h : n ≤ 1099511627776) : numL (n : Int) = enc n := by
  unfold numL numB
  rw [if_pos (by simp; omega)]
  simp
theorem numB_nat {n : Nat} (h : n ≤ 1099511627776) : numB (n : Int) = true := by unfold numB; simp; omega
theorem value_e {v : Vl} {l : List UInt8} {r2 : Rs} (h : (Rs.mk l 0).value = ((v, 0), r2)) : r2.e = 0 := by
  unfold Rs.value at h
  cases hn : (Rs.mk l 0).num 1099511627776 with
  | mk p r' =>
    obtain ⟨n, e⟩ := p
    rw [hn] at h
    simp only at h
    split at h
    · simp only [Prod.mk.injEq] at h
      omega
    rename_i he
    obtain rfl : e = 0 := by omega
    have e1 := (Rs.num_ok hn).1
    obtain ⟨l', e'⟩ := r'
    simp only at e1
    subst e1
    split at h
    · simp only [Prod.mk.injEq] at h
      omega
    split at h
    · obtain ⟨⟨⟨x, c⟩, r3⟩, hi⟩ : ∃ q, (Rs.mk l' 0).int = q := ⟨_, rfl⟩
      rw [hi] at h
      simp only at h
      split at h
      · simp only [Prod.mk.injEq] at h
        omega
      · rename_i hc
        obtain rfl : c = 0 := by omega
        simp only [Prod.mk.injEq] at h
        obtain ⟨⟨rfl, _⟩, rfl⟩ := h
        exact (Rs.int_ok hi).1
    split at h
    · obtain ⟨⟨⟨x, c⟩, r3⟩, hi⟩ : ∃ q, (Rs.mk l' 0).num 1099511627776 = q := ⟨_, rfl⟩
      rw [hi] at h
      simp only at h
      split at h
      · simp only [Prod.mk.injEq] at h
        omega
      split at h
      · simp only [Prod.mk.injEq] at h
        omega
      · rename_i hc hx
        obtain rfl : c = 0 := by omega
        simp only [Prod.mk.injEq] at h
        obtain ⟨⟨rfl, _⟩, rfl⟩ := h
        exact (Rs.num_ok hi).1
    split at h
    · obtain ⟨⟨⟨x, c⟩, r3⟩, hi⟩ : ∃ q, (Rs.mk l' 0).text 40 = q := ⟨_, rfl⟩
      rw [hi] at h
      simp only at h
      split at h
      · simp only [Prod.mk.injEq] at h
        omega
      · rename_i hc
        obtain rfl : c = 0 := by omega
        simp only [Prod.mk.injEq] at h
        obtain ⟨⟨rfl, _⟩, rfl⟩ := h
        exact (Rs.text_ok hi).1
    · simp only [Prod.mk.injEq] at h
      obtain ⟨⟨rfl, _⟩, rfl⟩ := h
      rfl
theorem var_wl : Wl rdVar varB (fun v => v.fitW) := by
  intro c he h
  simp only [rdVar, Bool.or_eq_false_iff, decide_eq_false_iff_not, ne_eq, Decidable.not_not] at h ⊢
  have z1 := Cs.text_size c
  obtain ⟨h1, h2⟩ := h
  obtain ⟨t1, t2⟩ := rtext_wl c he h1
  obtain ⟨⟨tx, c1⟩, q⟩ : ∃ q, c.text = q := ⟨_, rfl⟩
  rw [q] at t1 t2 h2 z1 ⊢
  obtain ⟨⟨l, e⟩, bad⟩ := c1
  simp only at t1 t2 h2 z1 ⊢
  subst t2
  cases hn : (Rs.mk l 0).value with
  | mk p r2 =>
    obtain ⟨v, c⟩ := p
    have z2 := value_fit (Rs.mk l 0)
    rw [hn] at h2 z2
    simp only at h2 z2 ⊢
    subst h2
    obtain ⟨v1, v2, v3, v4⟩ := value_inv hn
    refine ⟨?_, ?_, mk_le (Nat.le_trans z1 (by omega)), z2.1, v3, v4, mk_le (Nat.le_trans z2.2.2.2 (by omega))⟩
    · rw [t1, varB, valL, if_pos v2, List.append_assoc]
      rw [← v1]
    · exact value_e hn
theorem str_wl : Wl rdStr txt (fun s => s.size ≤ 90000) := fun c he h => by
  have := rtext_wl c he h
  exact ⟨this.1, this.2, mk_le (Nat.le_trans (Cs.text_size c) (by omega))⟩
theorem rep_wl {α : Type} {one : Cs → α × Cs} {B : α → List UInt8} {P : α → Prop} (hb : ∀ c, (one c).2.bad = false → c.bad = false) (h : Wl one B P) : ∀ n c, c.r.e = 0 → (rep one n c).2.bad = false → c.r.l = (rep one n c).1.flatMap B ++ (rep one n c).2.r.l ∧ (rep one n c).2.r.e = 0 ∧ (rep one n c).1.length = n ∧ ∀ x ∈ (rep one n c).1, P x
  | 0, c, he, _ => ⟨rfl, he, rfl, by simp [rep]⟩
  | n + 1, c, he, hx => by
    have hc := rep_bad hb (n + 1) c hx
    have e : rep one (n + 1) c = ((one c).1 :: (rep one n (one c).2).1, (rep one n (one c).2).2) := by rw [rep, hc]; rfl
    rw [e] at hx ⊢
    simp only at hx ⊢
    have h1 := rep_bad hb n _ hx
    obtain ⟨a1, a2, a3⟩ := h c he h1
    obtain ⟨b1, b2, b3, b4⟩ := rep_wl hb h n (one c).2 a2 hx
    refine ⟨?_, b2, by rw [List.length_cons, b3], ?_⟩
    · rw [List.flatMap_cons, List.append_assoc, ← b1]
      exact a1
    · intro x hx'
      rcases List.mem_cons.1 hx' with rfl | hx'
      · exact a3
      · exact b4 x hx'
theorem list_wl {α : Type} {one : Cs → α × Cs} {B : α → List UInt8} {P : α → Prop} (hb : ∀ c, (one c).2.bad = false → c.bad = false) (h : Wl one B P) : Wl (Cs.list one) (lsB B) (fun l => l.length ≤ 1099511627776 ∧ ∀ x ∈ l, P x) := by
  intro c he hx
  have h1 := Cs.list_bad hb c hx
  obtain ⟨a1, a2⟩ := rnum_wl c he h1
  obtain ⟨b1, b2, b3, b4⟩ := rep_wl hb h c.num.1 c.num.2 a2 hx
  have hle := c.num_le
  refine ⟨?_, b2, ?_, b4⟩
  · show c.r.l = numL (((rep one c.num.1 c.num.2).1.length : Nat) : Int) ++ _ ++ _
    rw [b3, numL_nat hle, List.append_assoc]
    have : c.num.2.r.l = (rep one c.num.1 c.num.2).1.flatMap B ++ (Cs.list one c).2.r.l := b1
    rw [this] at a1
    exact a1
  · show (rep one c.num.1 c.num.2).1.length ≤ _
    rw [b3]
    exact hle
theorem truth_wl (c : Cs) (he : c.r.e = 0) (h : c.truth.2.bad = false) : c.r.l = numL (b2n c.truth.1) ++ c.truth.2.r.l ∧ c.truth.2.r.e = 0 := by
  obtain ⟨h1, h2⟩ := Cs.truth_bad c h
  obtain ⟨a1, a2⟩ := rnum_wl c he h1
  refine ⟨?_, a2⟩
  have : numL (b2n c.truth.1) = enc c.num.1 := by
    unfold Cs.truth
    simp only
    have h3 : c.num.1 = 0 ∨ c.num.1 = 1 := by omega
    rcases h3 with h3 | h3
    · rw [h3]; exact numL_nat (n := 0) (by omega)
    · rw [h3]; exact numL_nat (n := 1) (by omega)
  rw [this]
  exact a1
theorem small_wl (c : Cs) (he : c.r.e = 0) (h : c.small.2.bad = false) : c.r.l = numL (c.small.1 : Nat) ++ c.small.2.r.l ∧ c.small.2.r.e = 0 ∧ numB (c.small.1 : Nat) = true := by
  obtain ⟨h1, h2⟩ := Cs.small_bad c h
  obtain ⟨a1, a2⟩ := rnum_wl c he h1
  have h3 : c.small.1 = c.num.1 := Nat.mod_eq_of_lt (by omega)
  refine ⟨?_, a2, ?_⟩
  · rw [h3, numL_nat (by omega)]
    exact a1
  · rw [h3]
    exact numB_nat (by omega)
theorem inc_nat {n : Nat} (h : n ≤ 1099511627776) : inc ((n : Int) - 1) = n := by
  unfold inc
  rw [show (n : Int) - 1 + 1 = n by omega, IntKind.wrap_i64]
  omega
theorem flow_wl : Wl rdFlow floB (fun f => f.iff.size ≤ 90000 ∧ floW f = false) := by
  intro c he h
  have h4 : c.num.2.num.2.text.2.truth.2.bad = false := h
  have h3 := Cs.num_bad _ (Cs.truth_bad _ h4).1
  have h2 := Cs.text_bad _ h3
  have h1 := Cs.num_bad _ h2
  obtain ⟨a1, b1⟩ := rnum_wl c he h1
  obtain ⟨a2, b2⟩ := rnum_wl _ b1 h2
  obtain ⟨a3, b3⟩ := rtext_wl _ b2 h3
  obtain ⟨a4, b4⟩ := truth_wl _ b3 h4
  have l1 := c.num_le
  have l2 := c.num.2.num_le
  have l3 := Cs.text_size c.num.2.num.2
  refine ⟨?_, b4, mk_le (Nat.le_trans l3 (by omega)), ?_⟩
  · show c.r.l = floB ⟨c.num.1, c.num.2.num.1, ⟨c.num.2.num.2.text.1.toArray⟩, c.num.2.num.2.text.2.truth.1⟩ ++ c.num.2.num.2.text.2.truth.2.r.l
    rw [a1, a2, a3, a4]
    simp only [floB, nums, nAt, List.getD_cons_zero, List.getD_cons_succ, numL_nat l1, numL_nat l2, List.append_assoc, List.nil_append]
  · show floW ⟨c.num.1, c.num.2.num.1, ⟨c.num.2.num.2.text.1.toArray⟩, c.num.2.num.2.text.2.truth.1⟩ = false
    simp only [floW, numsW, nAt, List.getD_cons_zero, List.getD_cons_succ, numB_nat l1, numB_nat l2, Bool.not_true, Bool.or_false]
def Nd.fitW (d : Nd) : Prop := d.name.size ≤ 90000 ∧ d.key.size ≤ 90000 ∧ d.text.size ≤ 90000 ∧ d.set.size ≤ 90000
theorem small_bad (c : Cs) (h : c.small.2.bad = false) : c.bad = false := Cs.num_bad c (Cs.small_bad c h).1
theorem truth_bad (c : Cs) (h : c.truth.2.bad = false) : c.bad = false := Cs.num_bad c (Cs.truth_bad c h).1
/-- a head's bytes, told by what was read -/
theorem hdB_of (x1 x6 x7 x8 : List UInt8) (n2 n3 n4 n5 : Nat) (b : Bool) (l3 : n3 ≤ 1099511627776) (l4 : n4 ≤ 1099511627776) (e2 : numB n2 = true) (e5 : numB n5 = true) :
    hdB ⟨⟨x1.toArray⟩, n2, (n3 : Int) - 1, (n4 : Int) - 1, n5, ⟨x6.toArray⟩, ⟨x7.toArray⟩, ⟨x8.toArray⟩, b⟩ = txt ⟨x1.toArray⟩ ++ (numL n2 ++ (enc n3 ++ (enc n4 ++ (numL n5 ++ (txt ⟨x6.toArray⟩ ++ (txt ⟨x7.toArray⟩ ++ (txt ⟨x8.toArray⟩ ++ numL (b2n b)))))))) ∧
    hdW ⟨⟨x1.toArray⟩, n2, (n3 : Int) - 1, (n4 : Int) - 1, n5, ⟨x6.toArray⟩, ⟨x7.toArray⟩, ⟨x8.toArray⟩, b⟩ = false := by
  unfold hdB hdW hd4
  simp only [nums, txts, numsW, nAt, tAt, List.getD_cons_zero, List.getD_cons_succ, inc_nat l3, inc_nat l4, numL_nat l3, numL_nat l4, numB_nat l3, numB_nat l4, e2, e5, List.append_assoc, List.nil_append, Bool.not_true, Bool.or_false, and_self]
theorem head_wl : Wl rdHead hdB (fun d => d.fitW ∧ hdW d = false) := by
  intro c he h
  unfold rdHead at h ⊢
  simp only at h ⊢
  have s1 := @Cs.text_size c
  have w1 := rtext_wl c
  have v1 := Cs.text_bad c
  obtain ⟨⟨x1, c1⟩, q1⟩ : ∃ q, c.text = q := ⟨_, rfl⟩
  rw [q1] at s1 w1 v1 h ⊢
  simp only at s1 w1 v1 h ⊢
  have w2 := small_wl c1
  have v2 := small_bad c1
  obtain ⟨⟨n2, c2⟩, q2⟩ : ∃ q, c1.small = q := ⟨_, rfl⟩
  rw [q2] at w2 v2 h ⊢
  simp only at w2 v2 h ⊢
  have s3 := @Cs.num_le c2
  have w3 := rnum_wl c2
  have v3 := Cs.num_bad c2
  obtain ⟨⟨n3, c3⟩, q3⟩ : ∃ q, c2.num = q := ⟨_, rfl⟩
  rw [q3] at s3 w3 v3 h ⊢
  simp only at s3 w3 v3 h ⊢
  have s4 := @Cs.num_le c3
  have w4 := rnum_wl c3
  have v4 := Cs.num_bad c3
  obtain ⟨⟨n4, c4⟩, q4⟩ : ∃ q, c3.num = q := ⟨_, rfl⟩
  rw [q4] at s4 w4 v4 h ⊢
  simp only at s4 w4 v4 h ⊢
  have w5 := small_wl c4
  have v5 := small_bad c4
  obtain ⟨⟨n5, c5⟩, q5⟩ : ∃ q, c4.small = q := ⟨_, rfl⟩
  rw [q5] at w5 v5 h ⊢
  simp only at w5 v5 h ⊢
  have s6 := @Cs.text_size c5
  have w6 := rtext_wl c5
  have v6 := Cs.text_bad c5
  obtain ⟨⟨x6, c6⟩, q6⟩ : ∃ q, c5.text = q := ⟨_, rfl⟩
  rw [q6] at s6 w6 v6 h ⊢
  simp only at s6 w6 v6 h ⊢
  have s7 := @Cs.text_size c6
  have w7 := rtext_wl c6
  have v7 := Cs.text_bad c6
  obtain ⟨⟨x7, c7⟩, q7⟩ : ∃ q, c6.text = q := ⟨_, rfl⟩
  rw [q7] at s7 w7 v7 h ⊢
  simp only at s7 w7 v7 h ⊢
  have s8 := @Cs.text_size c7
  have w8 := rtext_wl c7
  have v8 := Cs.text_bad c7
  obtain ⟨⟨x8, c8⟩, q8⟩ : ∃ q, c7.text = q := ⟨_, rfl⟩
  rw [q8] at s8 w8 v8 h ⊢
  simp only at s8 w8 v8 h ⊢
  have w9 := truth_wl c8
  have v9 := truth_bad c8
  obtain ⟨⟨b, c9⟩, q9⟩ : ∃ q, c8.truth = q := ⟨_, rfl⟩
  rw [q9] at w9 v9 h ⊢
  simp only at w9 v9 h ⊢
  have h8 := v9 h
  have h7 := v8 h8
  have h6 := v7 h7
  have h5 := v6 h6
  have h4 := v5 h5
  have h3 := v4 h4
  have h2 := v3 h3
  have h1 := v2 h2
  obtain ⟨a1, b1⟩ := w1 he h1
  obtain ⟨a2, b2, n2'⟩ := w2 b1 h2
  obtain ⟨a3, b3⟩ := w3 b2 h3
  obtain ⟨a4, b4⟩ := w4 b3 h4
  obtain ⟨a5, b5, n5'⟩ := w5 b4 h5
  obtain ⟨a6, b6⟩ := w6 b5 h6
  obtain ⟨a7, b7⟩ := w7 b6 h7
  obtain ⟨a8, b8⟩ := w8 b7 h8
  obtain ⟨a9, b9⟩ := w9 b8 h
  obtain ⟨z1, z2⟩ := hdB_of x1 x6 x7 x8 n2 n3 n4 n5 b s3 s4 n2' n5'
  refine ⟨?_, b9, ⟨mk_le (Nat.le_trans s1 (by omega)), mk_le (Nat.le_trans s6 (by omega)), mk_le (Nat.le_trans s7 (by omega)), mk_le (Nat.le_trans s8 (by omega))⟩, z2⟩
  rw [z1, a1, a2, a3, a4, a5, a6, a7, a8, a9]
  simp only [List.append_assoc]
def PNod.fitW (p : PNod) : Prop := p.d.fitW ∧ hdW p.d = false ∧ p.vs.length ≤ 1099511627776 ∧ (∀ v ∈ p.vs, v.fitW) ∧ p.bs.length ≤ 1099511627776 ∧ ∀ s ∈ p.bs, s.size ≤ 90000
theorem node_wl : Wl rdNode ndB (fun p => p.fitW) := by
  intro c he h
  have h0 := h
  rw [rdNode_snd] at h
  have h2 : (Cs.list rdVar (rdHead c).2).2.bad = false := Cs.num_bad _ (Cs.list_bad rdStr_bad _ h)
  have h1 : (rdHead c).2.bad = false := Cs.num_bad _ (Cs.list_bad rdVar_bad _ h2)
  obtain ⟨a1, b1, p1⟩ := head_wl c he h1
  obtain ⟨a2, b2, p2⟩ := list_wl rdVar_bad var_wl (rdHead c).2 b1 h2
  obtain ⟨a3, b3, p3⟩ := list_wl rdStr_bad str_wl (Cs.list rdVar (rdHead c).2).2 b2 h
  rw [rdNode_snd]
  refine ⟨?_, b3, ?_⟩
  · unfold rdNode ndB
    simp only [List.append_assoc]
    rw [a1, a2, a3]
  · unfold rdNode PNod.fitW
    simp only
    exact ⟨p1.1, p1.2, p2.1, p2.2, p3.1, p3.2⟩
theorem rdFlow_bad (c : Cs) (h : (rdFlow c).2.bad = false) : c.bad = false := Cs.num_bad _ (Cs.num_bad _ (Cs.text_bad _ (Cs.num_bad _ (Cs.truth_bad _ h).1)))
theorem rdNode_bad (c : Cs) (h : (rdNode c).2.bad = false) : c.bad = false := by
  rw [rdNode_snd] at h
  exact Cs.text_bad _ (rdHead_bad c (Cs.num_bad _ (Cs.list_bad rdVar_bad _ (Cs.num_bad _ (Cs.list_bad rdStr_bad _ h)))))
def PPr.fitW (p : PPr) : Prop := p.name.size ≤ 90000 ∧ (∀ v ∈ p.vs, v.fitW) ∧ (∀ q ∈ p.ns, q.fitW) ∧ ∀ f ∈ p.fs, f.iff.size ≤ 90000 ∧ floW f = false
theorem proc_wl : Wl rdProc ppB (fun p => p.fitW) := by
  intro c he h
  obtain ⟨c1, q1⟩ : ∃ c', c.text.2 = c' := ⟨_, rfl⟩
  unfold rdProc rdC rdB rdA at h ⊢
  simp only [q1] at h ⊢
  have h3 : (Cs.list rdNode (Cs.list rdVar c1).2).2.bad = false := Cs.num_bad _ (Cs.list_bad rdFlow_bad _ h)
  have h2 : (Cs.list rdVar c1).2.bad = false := Cs.num_bad _ (Cs.list_bad rdNode_bad _ h3)
  have h1 : c1.bad = false := Cs.num_bad _ (Cs.list_bad rdVar_bad _ h2)
  rw [← q1] at h1
  obtain ⟨a1, b1⟩ := rtext_wl c he h1
  rw [q1] at a1 b1
  obtain ⟨a2, b2, p2⟩ := list_wl rdVar_bad var_wl c1 b1 h2
  obtain ⟨a3, b3, p3⟩ := list_wl rdNode_bad node_wl _ b2 h3
  obtain ⟨a4, b4, p4⟩ := list_wl rdFlow_bad flow_wl _ b3 h
  refine ⟨?_, b4, mk_le (Nat.le_trans (Cs.text_size c) (by omega)), p2.2, p3.2, p4.2⟩
  unfold ppB
  simp only [List.append_assoc]
  rw [a1, a2, a3, a4]

/-- what a process that was read is, written anew -/
theorem read_back {x : Pr} {t : List UInt8} (hp : x.pp = (rdProc ⟨⟨t, 0⟩, false⟩).1) (hb : (rdProc ⟨⟨t, 0⟩, false⟩).2.bad = false) (hf : (Wr.Rs.fin (rdProc ⟨⟨t, 0⟩, false⟩).2.r).1 = 0) : prB x = t ∧ prW x = false ∧ x.pp.fitW := by
  obtain ⟨a, b, p⟩ := proc_wl ⟨⟨t, 0⟩, false⟩ rfl hb
  have hl : (rdProc ⟨⟨t, 0⟩, false⟩).2.r.l = [] := by
    unfold Wr.Rs.fin at hf
    rw [if_neg (by rw [b]; simp)] at hf
    by_cases hl : (rdProc ⟨⟨t, 0⟩, false⟩).2.r.l = []
    · exact hl
    · rw [if_neg hl] at hf
      simp at hf
  rw [hl, List.append_nil] at a
  refine ⟨?_, ?_, by rw [hp]; exact p⟩
  · rw [prB_pp, hp]
    exact a.symm
  · rw [prW_pp, hp]
    obtain ⟨_, _, p3, p4⟩ := p
    rw [Bool.or_eq_false_iff]
    constructor
    · rw [List.any_eq_false]
      intro q hq
      rw [(p3 q hq).2.1]
      simp
    · rw [List.any_eq_false]
      intro q hq
      rw [(p4 q hq).2]
      simp
end Go.Proofs.YtblebjgjomamdaaDoor
