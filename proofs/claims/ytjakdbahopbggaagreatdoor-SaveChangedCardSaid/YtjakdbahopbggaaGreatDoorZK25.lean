/- What is read without anything bad, written anew, are the bytes (plain). Conditions: none. -/
import Derived.Test.YtjakdbahopbggaaGreatDoorZK23
import Derived.Test.YtjakdbahopbggaaGreatDoorZCe
section
namespace Go.Proofs.YtjakdbahopbggaaGreatDoor
open Go.RowKit Go.Ow Go.Wi

theorem flat_row {α : Type} (F : (Nat → α) → Nat → Nat → List UInt8) (B : α → List UInt8) (h0 : ∀ f k, F f k 0 = []) (h1 : ∀ f k n, F f k (n + 1) = B (f k) ++ F f (k + 1) n) (f : Nat → α) : ∀ n k, F f k n = ((List.range' k n).map f).flatMap B
  | 0, k => by rw [h0]; rfl
  | n + 1, k => by rw [h1, flat_row F B h0 h1 f n (k + 1), List.range'_succ]; simp
theorem any_row {α : Type} (F : (Nat → α) → Nat → Nat → Bool) (B : α → Bool) (h0 : ∀ f k, F f k 0 = false) (h1 : ∀ f k n, F f k (n + 1) = (B (f k) || F f (k + 1) n)) (f : Nat → α) : ∀ n k, F f k n = ((List.range' k n).map f).any B
  | 0, k => by rw [h0]; rfl
  | n + 1, k => by rw [h1, any_row F B h0 h1 f n (k + 1), List.range'_succ]; simp
theorem vsB_row (f : Nat → Va) (n : Nat) : vsB f 0 n = (rowL f n).flatMap varB := by rw [flat_row vsB varB (fun _ _ => rfl) (fun _ _ _ => rfl), rowL, List.range_eq_range']
theorem txts_row (f : Nat → ByteArray) (n : Nat) : txts f 0 n = (rowL f n).flatMap txt := by rw [flat_row txts txt (fun _ _ => rfl) (fun _ _ _ => rfl), rowL, List.range_eq_range']
theorem nodsB_row (f : Nat → Nod) (n : Nat) : nodsB f 0 n = (rowL f n).flatMap nodB := by rw [flat_row nodsB nodB (fun _ _ => rfl) (fun _ _ _ => rfl), rowL, List.range_eq_range']
theorem flosB_row (f : Nat → Fl) (n : Nat) : flosB f 0 n = (rowL f n).flatMap floB := by rw [flat_row flosB floB (fun _ _ => rfl) (fun _ _ _ => rfl), rowL, List.range_eq_range']
theorem nodsW_row (f : Nat → Nod) (n : Nat) : nodsW f 0 n = (rowL f n).any nodW := by rw [any_row nodsW nodW (fun _ _ => rfl) (fun _ _ _ => rfl), rowL, List.range_eq_range']
theorem flosW_row (f : Nat → Fl) (n : Nat) : flosW f 0 n = (rowL f n).any floW := by rw [any_row flosW floW (fun _ _ => rfl) (fun _ _ _ => rfl), rowL, List.range_eq_range']
/-- a node's bytes by its data -/
def hd4 (d : Nd) : List Int := [d.kind, inc d.inn, inc d.on, d.event]
def hdB (d : Nd) : List UInt8 := txt d.name ++ (nums (nAt (hd4 d)) 0 4 ++ (txts (tAt [d.key, d.text, d.set]) 0 3 ++ numL (b2n d.breaks)))
def hdW (d : Nd) : Bool := numsW (nAt (hd4 d)) 0 4
def lsB {α : Type} (B : α → List UInt8) (l : List α) : List UInt8 := numL (l.length : Nat) ++ l.flatMap B
def ndB (p : PNod) : List UInt8 := hdB p.d ++ (lsB varB p.vs ++ lsB txt p.bs)
theorem nodB_pn (y : Nod) : nodB y = ndB y.pn := by
  unfold nodB ndB lsB hdB Nod.pn vsL nod4 hd4
  simp only [rowL_len, vsB_row, txts_row, List.append_assoc]
def ppB (p : PPr) : List UInt8 := txt p.name ++ (lsB varB p.vs ++ (lsB ndB p.ns ++ lsB floB p.fs))
theorem prB_pp (x : Pr) : prB x = ppB x.pp := by
  unfold prB ppB lsB Pr.pp vsL
  simp only [rowL_len, List.length_map, vsB_row, nodsB_row, flosB_row, List.append_assoc, List.flatMap_map]
  have : (rowL x.nf x.nn).flatMap nodB = (rowL x.nf x.nn).flatMap fun a => ndB a.pn := by
    congr 1
    funext y
    exact nodB_pn y
  rw [this]
theorem prW_pp (x : Pr) : prW x = ((x.pp.ns.any fun p => hdW p.d) || x.pp.fs.any floW) := by
  unfold prW Pr.pp
  simp only [nodsW_row, flosW_row, List.any_map]
  rfl

def Nd.fitW (d : Nd) : Prop := d.name.size ≤ 90000 ∧ d.key.size ≤ 90000 ∧ d.text.size ≤ 90000 ∧ d.set.size ≤ 90000
def PNod.fitW (p : PNod) : Prop := p.d.fitW ∧ hdW p.d = false ∧ p.vs.length ≤ 1099511627776 ∧ (∀ v ∈ p.vs, v.fitW) ∧ p.bs.length ≤ 1099511627776 ∧ ∀ s ∈ p.bs, s.size ≤ 90000
def PPr.fitW (p : PPr) : Prop := p.name.size ≤ 90000 ∧ (∀ v ∈ p.vs, v.fitW) ∧ (∀ q ∈ p.ns, q.fitW) ∧ ∀ f ∈ p.fs, f.iff.size ≤ 90000 ∧ floW f = false

end Go.Proofs.YtjakdbahopbggaaGreatDoor
end
/- A process that may be has short texts, few of them, and few bytes (plain). Conditions: none. -/
section
namespace Go.Proofs.YtjakdbahopbggaaGreatDoor
open Go.RowKit Go.Ow Go.Wi

theorem isName_le {s : ByteArray} (h : isName s = true) : s.size ≤ 12 := by
  unfold isName at h
  simp only [Bool.and_eq_true, decide_eq_true_eq] at h
  exact h.1.2
theorem isName_ge {s : ByteArray} (h : isName s = true) : 1 ≤ s.size := by
  unfold isName at h
  simp only [Bool.and_eq_true, decide_eq_true_eq] at h
  exact h.1.1
theorem varOk_le {v : Va} (h : varOk v = true) : v.nm.size ≤ 12 ∧ v.t.size ≤ 40 := by
  unfold varOk at h
  simp only [Bool.and_eq_true, decide_eq_true_eq] at h
  refine ⟨isName_le h.1, ?_⟩
  have h2 := h.2.1
  unfold mayV plainB at h2
  simp only [Bool.or_eq_true, Bool.and_eq_true, decide_eq_true_eq] at h2
  rcases h2 with h2 | h2 | h2 | h2 <;> omega
theorem unlikeF_ok (f : Nat → Va) : ∀ m k, unlikeF f k m = true → ∀ j, k ≤ j → j < k + m → varOk (f j) = true
  | 0, k, _, j, h1, h2 => by omega
  | m + 1, k, h, j, h1, h2 => by
    rw [unlikeF, Bool.and_eq_true, Bool.and_eq_true] at h
    by_cases hj : j = k
    · subst hj; exact h.1.1
    · exact unlikeF_ok f m (k + 1) h.2 j (by omega) (by omega)
theorem unlikeS_ok (f : Nat → ByteArray) : ∀ m k, unlikeS f k m = true → ∀ j, k ≤ j → j < k + m → isName (f j) = true
  | 0, k, _, j, h1, h2 => by omega
  | m + 1, k, h, j, h1, h2 => by
    rw [unlikeS, Bool.and_eq_true, Bool.and_eq_true] at h
    by_cases hj : j = k
    · subst hj; exact h.1.1
    · exact unlikeS_ok f m (k + 1) h.2 j (by omega) (by omega)
theorem varsE_ok {m : Nat} {f : Nat → Va} (h : varsE m f = 0) : m ≤ 8 ∧ ∀ j, j < m → varOk (f j) = true := by
  unfold varsE at h
  by_cases h8 : 8 < m
  · rw [if_pos h8] at h; cases h
  · rw [if_neg h8] at h
    cases hu : unlikeF f 0 m
    · rw [hu] at h; cases h
    · exact ⟨by omega, fun j hj => unlikeF_ok f m 0 hu j (Nat.zero_le _) (by omega)⟩
theorem cond_t {c a : Bool} {b : Bool} (h : cond c (a && b) b = true) : b = true ∧ (c = true → a = true) := by cases c <;> cases a <;> cases b <;> simp_all
theorem ba_eq {a b : ByteArray} (h : (a == b) = true) : a = b := by
  cases a; cases b
  have h' : ByteArray.beq _ _ = true := h
  unfold ByteArray.beq at h'
  simp at h'
  simp [h']
theorem emp_size {s : ByteArray} (h : s = ⟨#[]⟩) : s.size = 0 := by subst h; rfl
theorem node_ok {d : Nd} {m n : Nat} {f : Nat → Va} {g : Nat → ByteArray} (h : nodeE d m f n g = 0) :
    d.name.size ≤ 12 ∧ d.key.size ≤ 12 ∧ d.text.size ≤ 100 ∧ d.set.size ≤ 12 ∧ m ≤ 8 ∧ n ≤ 8 ∧ (∀ j, j < m → varOk (f j) = true) ∧ ∀ j, j < n → isName (g j) = true := by
  unfold nodeE at h
  by_cases hl : 100 < d.text.size ∨ 8 < m ∨ 8 < n
  · rw [if_pos hl] at h; cases h
  rw [if_neg hl] at h
  have h2 : nOk8 d m f n g = true ∧ sameD (nRest d) nZero f f g g (cond (scopeB d.kind) 0 m) 0 (cond (nC8 d) 0 n) 0 = true := by
    split at h
    · rename_i h2; simpa using h2
    · cases h
  obtain ⟨o8, sd⟩ := h2
  unfold nOk8 at o8
  obtain ⟨o7, e8⟩ := cond_t o8
  unfold nOk7 at o7
  obtain ⟨o6, e7⟩ := cond_t o7
  unfold nOk6 at o6
  obtain ⟨o5, _⟩ := cond_t o6
  unfold nOk5 at o5
  rw [Bool.and_eq_true] at o5
  have o4 := o5.2
  unfold nOk4 at o4
  obtain ⟨o3, e4⟩ := cond_t o4
  unfold nOk3 at o3
  obtain ⟨o2, _⟩ := cond_t o3
  unfold nOk2 at o2
  obtain ⟨o1, e2⟩ := cond_t o2
  unfold nOk1 at o1
  obtain ⟨o0, e1⟩ := cond_t o1
  unfold nOk0 at o0
  rw [Bool.and_eq_true] at o0
  unfold sameD sameN at sd
  simp only [Bool.and_eq_true] at sd
  have sk : k2 d = ⟨#[]⟩ := ba_eq sd.1.2.2.2.2.2.1
  have ss : s4 d = ⟨#[]⟩ := ba_eq sd.1.2.2.2.2.2.2.2.1
  have sv := sd.2.1
  have sb := sd.2.2
  unfold eqV at sv
  unfold eqS at sb
  simp only [Bool.and_eq_true, decide_eq_true_eq] at sv sb
  have hkey : d.key.size ≤ 12 := by
    cases c1 : nC1 d
    · have hk1 : k1 d = d.key := by unfold k1; rw [c1]; rfl
      cases c2 : nC2 d
      · have hk2 : k2 d = k1 d := by unfold k2; rw [c2]; rfl
        rw [hk2, hk1] at sk
        rw [emp_size sk]
        omega
      · have := e2 c2
        rw [hk1] at this
        unfold pKeyH at this
        simp only [Bool.or_eq_true, Bool.and_eq_true, decide_eq_true_eq] at this
        rcases this with h | h
        · exact isName_le h
        · omega
    · exact isName_le (e1 c1)
  have hset : d.set.size ≤ 12 := by
    cases c4 : nC4 d
    · have hs4 : s4 d = d.set := by unfold s4; rw [c4]; rfl
      rw [hs4] at ss
      rw [emp_size ss]
      omega
    · exact isName_le (e4 c4)
  refine ⟨isName_le o0.1, hkey, by omega, hset, by omega, by omega, ?_, ?_⟩
  · intro j hj
    cases c7 : scopeB d.kind
    · have := sv.1
      rw [c7] at this
      simp at this
      omega
    · exact (varsE_ok (by simpa using e7 c7)).2 j hj
  · intro j hj
    cases c8 : nC8 d
    · have := sb.1
      rw [c8] at this
      simp at this
      omega
    · exact unlikeS_ok g n 0 (e8 c8) j (Nat.zero_le _) (by omega)
theorem flow_ok {f : Fl} (h : flowE f = 0) : f.iff.size ≤ 100 := by
  unfold flowE at h
  by_cases h1 : 100 < f.iff.size
  · rw [if_pos h1] at h; cases h
  · omega
theorem firstE_ok (e : Nat → Nat) : ∀ m k, firstE e k m = 0 → ∀ j, k ≤ j → j < k + m → e j = 0
  | 0, k, _, j, h1, h2 => by omega
  | m + 1, k, h, j, h1, h2 => by
    rw [firstE] at h
    by_cases hk : e k = 0
    · rw [if_neg (by simp [hk])] at h
      by_cases hj : j = k
      · subst hj; exact hk
      · exact firstE_ok e m (k + 1) h j (by omega) (by omega)
    · rw [if_pos hk] at h; exact absurd h hk
theorem pr_ok {x : Pr} (h : x.e = 0) : x.name.size ≤ 12 ∧ 1 ≤ x.name.size ∧ x.nn ≤ 40 ∧ x.fn ≤ 80 ∧ x.vm ≤ 8 ∧ (∀ j, j < x.vm → varOk (x.vf j) = true) ∧ (∀ j, j < x.nn → (x.nf j).e = 0) ∧ ∀ j, j < x.fn → flowE (x.ff j) = 0 := by
  unfold Pr.e at h
  by_cases h1 : 40 < x.nn ∨ 80 < x.fn
  · rw [if_pos h1] at h; cases h
  rw [if_neg h1] at h
  by_cases h2 : x.nn = 0 ∨ isName x.name = false
  · rw [if_pos h2] at h; cases h
  rw [if_neg h2] at h
  by_cases h3 : varsE x.vm x.vf ≠ 0
  · rw [if_pos h3] at h; exact absurd h h3
  rw [if_neg h3] at h
  by_cases h4 : firstE (fun k => (x.nf k).e) 0 x.nn ≠ 0
  · rw [if_pos h4] at h; exact absurd h h4
  rw [if_neg h4] at h
  have hn : isName x.name = true := by cases hn : isName x.name; exact absurd (.inr hn) h2; rfl
  have hv := varsE_ok (Decidable.not_not.1 h3)
  exact ⟨isName_le hn, isName_ge hn, by omega, by omega, hv.1, hv.2, fun j hj => firstE_ok _ _ 0 (Decidable.not_not.1 h4) j (Nat.zero_le _) (by omega), fun j hj => firstE_ok _ _ 0 h j (Nat.zero_le _) (by omega)⟩

theorem pr_fitW {x : Pr} (h : x.e = 0) (hx : x.fit) : x.fitW := by
  obtain ⟨a1, _, a2, a3, a4, a5, a6, a7⟩ := pr_ok h
  have V : ∀ v : Va, v.fit → varOk v = true → v.fitW := fun v hf hv => ⟨Nat.le_trans (varOk_le hv).1 (by omega), hf.2.1, hf.2.2.1, hf.2.2.2.1, Nat.le_trans (varOk_le hv).2 (by omega)⟩
  refine ⟨by omega, fun k hk => V _ (hx.2.1 k) (a5 k hk), fun k hk => ?_, fun k hk => Nat.le_trans (flow_ok (a7 k hk)) (by omega), by omega, by omega, by omega⟩
  obtain ⟨b1, b2, b3, b4, b5, b6, b7, b8⟩ := node_ok (a6 k hk)
  exact ⟨by omega, by omega, by omega, by omega, fun j hj => V _ ((hx.2.2.1 k).2.1 j) (b7 j hj), fun j hj => Nat.le_trans (isName_le (b8 j hj)) (by omega), by omega, by omega⟩

-- how many bytes
theorem txt_le {t : ByteArray} {n : Nat} (h : t.size ≤ n) (hn : n ≤ 100000) : (txt t).length ≤ 10 + n := by
  unfold txt
  have := enc_len64 t.size (by omega)
  have e : t.data.toList.length = t.size := by simp
  rw [List.length_append, e]
  omega
theorem flat_le {α : Type} (B : α → List UInt8) (K : Nat) : ∀ l : List α, (∀ x ∈ l, (B x).length ≤ K) → (l.flatMap B).length ≤ l.length * K
  | [], _ => by simp
  | a :: l, h => by
    have h1 := h a (List.mem_cons_self ..)
    have h2 := flat_le B K l (fun x hx => h x (List.mem_cons_of_mem _ hx))
    rw [List.flatMap_cons, List.length_append, List.length_cons, Nat.add_mul]
    omega
theorem mem_row {α : Type} {f : Nat → α} {n : Nat} {x : α} (h : x ∈ rowL f n) : ∃ j, j < n ∧ x = f j := by
  unfold rowL at h
  obtain ⟨j, hj, rfl⟩ := List.mem_map.1 h
  exact ⟨j, List.mem_range.1 hj, rfl⟩
theorem row_le {α : Type} (B : α → List UInt8) (K M : Nat) (f : Nat → α) (n : Nat) (hn : n ≤ M) (h : ∀ j, j < n → (B (f j)).length ≤ K) : ((rowL f n).flatMap B).length ≤ M * K := by
  have h1 := flat_le B K (rowL f n) (fun x hx => by obtain ⟨j, hj, rfl⟩ := mem_row hx; exact h j hj)
  rw [rowL_len] at h1
  exact Nat.le_trans h1 (Nat.mul_le_mul_right _ hn)
theorem varB_le {v : Va} (hf : v.fit) (h : varOk v = true) : (varB v).length ≤ 100 := by
  have h1 := varOk_le h
  have h2 := txt_le h1.1 (by omega)
  unfold varB
  rw [List.length_append]
  have h3 : (valL v.k v.n v.t).length ≤ 70 := by
    unfold valL
    split
    · rename_i hm
      have hk := hf.2.1
      have e1 := enc_len64 v.k (by omega)
      have e2 := enc_len64 (zig v.n) (zig_lt v.n hf.2.2.1 hf.2.2.2.1)
      unfold encV
      rw [List.length_append]
      split
      · omega
      · split
        · have e3 := enc_len64 v.n.toNat (by have := hf.2.2.2.1; omega)
          omega
        · split
          · have e4 := enc_len64 v.t.size (by omega)
            have e5 : v.t.data.toList.length = v.t.size := by simp
            rw [List.length_append, e5]
            omega
          · simp
            omega
    · simp
  omega
theorem vsL_le {m : Nat} {f : Nat → Va} (hm : m ≤ 8) (hf : ∀ k, (f k).fit) (h : ∀ j, j < m → varOk (f j) = true) : (vsL m f).length ≤ 900 := by
  unfold vsL
  rw [vsB_row, List.length_append]
  have h1 := numL_len (m : Nat)
  have h2 := row_le varB 100 8 f m hm (fun j hj => varB_le (hf j) (h j hj))
  omega
theorem nums_le (f : Nat → Int) : ∀ n k, (nums f k n).length ≤ n * 10
  | 0, k => by simp [nums]
  | n + 1, k => by
    have h1 := numL_len (f k)
    have h2 := nums_le f n (k + 1)
    rw [nums, List.length_append, Nat.add_mul]
    omega
theorem nodB_le {y : Nod} (hf : y.fit) (h : y.e = 0) : (nodB y).length ≤ 2000 := by
  obtain ⟨b1, b2, b3, b4, b5, b6, b7, b8⟩ := node_ok h
  have h1 := txt_le b1 (by omega)
  have h2 := nums_le (nAt (nod4 y)) 4 0
  have h3 := txt_le b2 (by omega)
  have h4 := txt_le b3 (by omega)
  have h5 := txt_le b4 (by omega)
  have h6 := numL_len (b2n y.d.breaks)
  have h7 := vsL_le b5 hf.2.1 b7
  have h8 := numL_len (y.n : Nat)
  have h9 := row_le txt 22 8 y.g y.n b6 (fun j hj => txt_le (isName_le (b8 j hj)) (by omega))
  unfold nodB
  rw [txts_row y.g]
  simp only [txts, tAt, List.getD_cons_zero, List.getD_cons_succ, List.length_append, List.append_nil]
  omega
theorem floB_le {f : Fl} (h : flowE f = 0) : (floB f).length ≤ 200 := by
  have h1 := nums_le (nAt [f.fr, f.to]) 2 0
  have h2 := txt_le (flow_ok h) (by omega)
  have h3 := numL_len (b2n f.els)
  unfold floB
  simp only [List.length_append]
  omega
theorem prB_le {x : Pr} (h : x.e = 0) (hx : x.fit) : (prB x).length ≤ 500000 ∧ 1 ≤ (prB x).length := by
  obtain ⟨a1, a0, a2, a3, a4, a5, a6, a7⟩ := pr_ok h
  have h1 := txt_le a1 (by omega)
  have h2 := vsL_le a4 hx.2.1 a5
  have h3 := numL_len (x.nn : Nat)
  have h4 := row_le nodB 2000 40 x.nf x.nn a2 (fun j hj => nodB_le (hx.2.2.1 j) (a6 j hj))
  have h5 := numL_len (x.fn : Nat)
  have h6 := row_le floB 200 80 x.ff x.fn a3 (fun j hj => floB_le (a7 j hj))
  have h7 : 1 ≤ (txt x.name).length := by unfold txt; have := enc_pos x.name.size; rw [List.length_append]; omega
  unfold prB
  rw [nodsB_row, flosB_row]
  simp only [List.length_append]
  omega
end Go.Proofs.YtjakdbahopbggaaGreatDoor
end
