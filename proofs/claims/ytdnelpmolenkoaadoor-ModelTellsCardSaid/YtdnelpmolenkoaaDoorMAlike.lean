/- Same turned about; the same data; with one thing another one: the plain law of ModelAlike. Conditions: none. -/
import Derived.Test.YtdnelpmolenkoaaDoorMCopy
namespace Go.Proofs.YtdnelpmolenkoaaDoor
open Go.RowKit Go.Ow

theorem by_eq {a b : ByteArray} (h : (a == b) = true) : a = b := by
  cases a; cases b
  have h' : ByteArray.beq _ _ = true := h
  unfold ByteArray.beq at h'
  simp at h'
  simp [h']
theorem by_refl (a : ByteArray) : (a == a) = true := by
  cases a
  show ByteArray.beq _ _ = true
  unfold ByteArray.beq
  simp
theorem allF_true {p : Nat → Bool} : ∀ n k, allF p k n = true ↔ ∀ j, k ≤ j → j < k + n → p j = true
  | 0, k => by simp [allF]; intro j h1 h2; omega
  | n + 1, k => by
    rw [allF, Bool.and_eq_true, allF_true n (k + 1)]
    constructor
    · rintro ⟨h1, h2⟩ j hj hj2
      by_cases h : j = k
      · subst h; exact h1
      · exact h2 j (by omega) (by omega)
    · intro h
      exact ⟨h k (Nat.le_refl _) (by omega), fun j h1 h2 => h j (by omega) (by omega)⟩
theorem allF_congr {p q : Nat → Bool} (h : ∀ k, p k = q k) (n k : Nat) : allF p k n = allF q k n := by rw [show p = q from funext h]
theorem ba_comm (a b : ByteArray) : (a == b) = (b == a) := by
  cases h : (a == b) <;> cases h' : (b == a)
  · rfl
  · have e := by_eq h'
    subst e
    rw [by_refl] at h
    cases h
  · have e := by_eq h
    subst e
    rw [by_refl] at h'
    cases h'
  · rfl
theorem sameN_comm (d e : Nd) : sameN d e = sameN e d := by
  unfold sameN
  rw [ba_comm d.name, ba_comm d.key, ba_comm d.text, ba_comm d.set]
  have h1 : ∀ a b : Int, (a == b) = (b == a) := fun a b => by rw [Bool.eq_iff_iff]; simp; exact eq_comm
  have h2 : ∀ a b : Bool, (a == b) = (b == a) := fun a b => by cases a <;> cases b <;> rfl
  rw [h1 d.kind, h1 d.inn, h1 d.on, h1 d.event, h2 d.breaks]
theorem eqV_comm (m n : Nat) (f g : Nat → Va) : eqV m n f g = eqV n m g f := by
  unfold eqV
  by_cases h : m = n
  · subst h
    rw [allF_congr (p := fun k => sameV (f k) (g k)) (q := fun k => sameV (g k) (f k)) fun k => by unfold sameV; rw [decide_eq_decide]; constructor <;> (rintro ⟨a, b, c, d⟩; exact ⟨a.symm, b.symm, c.symm, d.symm⟩)]
  · rw [decide_eq_false h, decide_eq_false fun e => h e.symm]; rfl
theorem eqS_comm (m n : Nat) (f g : Nat → ByteArray) : eqS m n f g = eqS n m g f := by
  unfold eqS
  by_cases h : m = n
  · subst h
    rw [allF_congr (p := fun k => decide (f k = g k)) (q := fun k => decide (g k = f k)) fun k => by rw [decide_eq_decide]; exact eq_comm]
  · rw [decide_eq_false h, decide_eq_false fun e => h e.symm]; rfl
theorem eqF_comm (m n : Nat) (f g : Nat → Fl) : eqF m n f g = eqF n m g f := by
  unfold eqF
  by_cases h : m = n
  · subst h
    rw [allF_congr (p := fun k => sameF (f k) (g k)) (q := fun k => sameF (g k) (f k)) fun k => by unfold sameF; rw [decide_eq_decide]; constructor <;> (rintro ⟨a, b, c, d⟩; exact ⟨a.symm, b.symm, c.symm, d.symm⟩)]
  · rw [decide_eq_false h, decide_eq_false fun e => h e.symm]; rfl
theorem sameK_comm (x y : Nod) : sameK x y = sameK y x := by
  unfold sameK sameD
  rw [sameN_comm, eqV_comm, eqS_comm]
theorem eqN_comm (m n : Nat) (f g : Nat → Nod) : eqN m n f g = eqN n m g f := by
  unfold eqN
  by_cases h : m = n
  · subst h
    rw [allF_congr (p := fun k => sameK (f k) (g k)) (q := fun k => sameK (g k) (f k)) fun k => sameK_comm _ _]
  · rw [decide_eq_false h, decide_eq_false fun e => h e.symm]; rfl
theorem sameP_comm (x y : Pr) : sameP x y = sameP y x := by
  unfold sameP
  rw [eqV_comm, eqN_comm, eqF_comm, show decide (x.name = y.name) = decide (y.name = x.name) from decide_eq_decide.2 eq_comm]

theorem sameN_refl (d : Nd) : sameN d d = true := by unfold sameN; simp [by_refl]
theorem sameN_eq {d e : Nd} (h : sameN d e = true) : d = e := by
  unfold sameN at h
  simp only [Bool.and_eq_true] at h
  obtain ⟨h1, h2, h3, h4, h5, h6, h7, h8, h9⟩ := h
  obtain ⟨a1, a2, a3, a4, a5, a6, a7, a8, a9⟩ := d
  obtain ⟨b1, b2, b3, b4, b5, b6, b7, b8, b9⟩ := e
  have e1 := by_eq h1
  have e6 := by_eq h6
  have e7 := by_eq h7
  have e8 := by_eq h8
  simp only [beq_iff_eq] at h2 h3 h4 h5 h9
  simp only at e1 e6 e7 e8
  have e2 : a2 = b2 := by omega
  have e5 : a5 = b5 := by omega
  subst e1 e2 h3 h4 e5 e6 e7 e8 h9
  rfl
theorem eqV_refl (m : Nat) (f : Nat → Va) : eqV m m f f = true := by
  unfold eqV
  rw [decide_eq_true rfl, Bool.true_and, allF_true]
  intro j _ _
  unfold sameV
  exact decide_eq_true ⟨rfl, rfl, rfl, rfl⟩
theorem eqS_refl (m : Nat) (f : Nat → ByteArray) : eqS m m f f = true := by
  unfold eqS
  rw [decide_eq_true rfl, Bool.true_and, allF_true]
  intro j _ _
  exact decide_eq_true rfl
theorem eqF_refl (m : Nat) (f : Nat → Fl) : eqF m m f f = true := by
  unfold eqF
  rw [decide_eq_true rfl, Bool.true_and, allF_true]
  intro j _ _
  unfold sameF
  exact decide_eq_true ⟨rfl, rfl, rfl, rfl⟩
theorem sameK_like {a b : Nod} (h : a.like b) : sameK a b = true := by
  obtain ⟨h1, h2, h3, h4, h5⟩ := h
  unfold sameK sameD
  rw [h1, h2, h3, h4, h5, sameN_refl, eqV_refl, eqS_refl]
  rfl
theorem sameP_like {a b : Pr} (h : a.like b) : sameP a b = true := by
  unfold sameP
  rw [h.name, h.vm, h.vf, h.nn, h.fn, h.ff, eqV_refl, eqF_refl, decide_eq_true rfl]
  have : eqN b.nn b.nn a.nf b.nf = true := by
    unfold eqN
    rw [decide_eq_true rfl, Bool.true_and, allF_true]
    intro j _ _
    exact sameK_like (h.nf j)
  rw [this]
  rfl
theorem Nod.e_like {a b : Nod} (h : a.like b) : a.e = b.e := by
  obtain ⟨h1, h2, h3, h4, h5⟩ := h
  unfold Nod.e
  rw [h1, h2, h3, h4, h5]
theorem Pr.e_like {a b : Pr} (h : a.like b) : a.e = b.e := by
  unfold Pr.e
  rw [h.name, h.vm, h.vf, h.nn, h.fn, h.ff, show (fun k => (a.nf k).e) = fun k => (b.nf k).e from funext fun k => Nod.e_like (h.nf k)]
theorem eqV_at {m n : Nat} {f g : Nat → Va} (h : eqV m n f g = true) : m = n ∧ ∀ k, k < m → f k = g k := by
  unfold eqV at h
  rw [Bool.and_eq_true, allF_true] at h
  refine ⟨of_decide_eq_true h.1, fun k hk => ?_⟩
  have := of_decide_eq_true (h.2 k (Nat.zero_le _) (by omega))
  obtain ⟨a, b, c, d⟩ := this
  cases hf : f k
  cases hg : g k
  rw [hf, hg] at a b c d
  simp only at a b c d
  subst a b c d
  rfl
theorem eqS_at {m n : Nat} {f g : Nat → ByteArray} (h : eqS m n f g = true) : m = n ∧ ∀ k, k < m → f k = g k := by
  unfold eqS at h
  rw [Bool.and_eq_true, allF_true] at h
  exact ⟨of_decide_eq_true h.1, fun k hk => of_decide_eq_true (h.2 k (Nat.zero_le _) (by omega))⟩
theorem eqF_at {m n : Nat} {f g : Nat → Fl} (h : eqF m n f g = true) : m = n ∧ ∀ k, k < m → f k = g k := by
  unfold eqF at h
  rw [Bool.and_eq_true, allF_true] at h
  refine ⟨of_decide_eq_true h.1, fun k hk => ?_⟩
  have := of_decide_eq_true (h.2 k (Nat.zero_le _) (by omega))
  obtain ⟨a, b, c, d⟩ := this
  cases hf : f k
  cases hg : g k
  rw [hf, hg] at a b c d
  simp only at a b c d
  subst a b c d
  rfl
theorem eqN_at {m n : Nat} {f g : Nat → Nod} (h : eqN m n f g = true) : m = n ∧ ∀ k, k < m → sameK (f k) (g k) = true := by
  unfold eqN at h
  rw [Bool.and_eq_true, allF_true] at h
  exact ⟨of_decide_eq_true h.1, fun k hk => h.2 k (Nat.zero_le _) (by omega)⟩
theorem sameK_at {x y : Nod} (h : sameK x y = true) : x.d = y.d ∧ x.m = y.m ∧ (∀ k, k < x.m → x.f k = y.f k) ∧ x.n = y.n ∧ ∀ k, k < x.n → x.g k = y.g k := by
  unfold sameK sameD at h
  simp only [Bool.and_eq_true] at h
  obtain ⟨h1, h2, h3⟩ := h
  have a := eqV_at h2
  have b := eqS_at h3
  exact ⟨sameN_eq h1, a.1, a.2, b.1, b.2⟩
theorem Vr.ext {w : World} {o : Option Addr} {m : Nat} {f g : Nat → Va} (h : Vr w o m f) (he : ∀ k, k < m → f k = g k) : Vr w o m g := fun k hk => by rw [← he k hk]; exact h k hk
theorem Ss.ext {w : World} {o : Option Addr} {m : Nat} {f g : Nat → ByteArray} (h : Ss w o m f) (he : ∀ k, k < m → f k = g k) : Ss w o m g := fun k hk => by rw [← he k hk]; exact h k hk
theorem FlA.ext {w : World} {o : Option Addr} {m : Nat} {f g : Nat → Fl} (h : FlA w o m f) (he : ∀ k, k < m → f k = g k) : FlA w o m g := fun k hk => by rw [← he k hk]; exact h k hk
/-- what is the same may be told by the other one's data -/
theorem same_told {x y : Pr} {w : World} (h : sameP x y = true) (hy : y.at w) (fx : x.fit) (fy : y.fit) : ∃ z : Pr, z.cs = y.cs ∧ z.like x ∧ z.at w ∧ z.fit := by
  unfold sameP at h
  simp only [Bool.and_eq_true] at h
  obtain ⟨h1, h2, h3, h4⟩ := h
  have h1 := of_decide_eq_true h1
  obtain ⟨v1, v2⟩ := eqV_at h2
  obtain ⟨n1, n2⟩ := eqN_at h3
  obtain ⟨f1, f2⟩ := eqF_at h4
  refine ⟨⟨x.name, y.vo, x.vm, y.vc, x.vf, y.no, x.nn, y.nc, fun k => if k < x.nn then { x.nf k with o := (y.nf k).o, c := (y.nf k).c, p := (y.nf k).p, q := (y.nf k).q } else x.nf k, y.fo, x.fn, y.fc, x.ff⟩, ?_, ?_, ?_, ?_⟩
  · simp only [Pr.cs, h1, v1, n1, f1]
  · refine ⟨rfl, rfl, rfl, rfl, fun k => ?_, rfl, rfl⟩
    show Nod.like (if k < x.nn then _ else _) _
    split <;> exact ⟨rfl, rfl, rfl, rfl, rfl⟩
  · refine ⟨?_, ?_, ?_⟩
    · have := hy.v
      rw [← v1] at this
      exact this.ext fun k hk => (v2 k hk).symm
    · intro k hk
      have hk' : k < x.nn := hk
      obtain ⟨b, off, e, hb, ha, c0, c1, c2, c3, c4, c5, c6, c7, c8, c9, c10⟩ := hy.n k (by omega)
      obtain ⟨s1, s2, s3, s4, s5⟩ := sameK_at (n2 k hk')
      refine ⟨b, off, e, hb, ?_, ?_⟩
      · show Nod.at w (if k < x.nn then _ else _)
        rw [if_pos hk']
        obtain ⟨a1, a2⟩ := ha
        rw [← s2] at a1
        rw [← s4] at a2
        exact ⟨a1.ext fun i hi => (s3 i hi).symm, a2.ext fun i hi => (s5 i hi).symm⟩
      · show w.cell? _ = some (.string (if k < x.nn then _ else _ : Nod).d.name) ∧ w.cell? _ = some (.int .u8 (if k < x.nn then _ else _ : Nod).d.kind) ∧ w.cell? _ = some (.int .i64 (if k < x.nn then _ else _ : Nod).d.inn) ∧ w.cell? _ = some (.int .i64 (if k < x.nn then _ else _ : Nod).d.on) ∧ w.cell? _ = some (.int .u8 (if k < x.nn then _ else _ : Nod).d.event) ∧ w.cell? _ = some (.string (if k < x.nn then _ else _ : Nod).d.key) ∧ w.cell? _ = some (.string (if k < x.nn then _ else _ : Nod).d.text) ∧ w.cell? _ = some (.string (if k < x.nn then _ else _ : Nod).d.set) ∧ w.cell? _ = some (.bool (if k < x.nn then _ else _ : Nod).d.breaks) ∧ w.cell? _ = some (.slice (if k < x.nn then _ else _ : Nod).o (if k < x.nn then _ else _ : Nod).m (if k < x.nn then _ else _ : Nod).c) ∧ w.cell? _ = some (.slice (if k < x.nn then _ else _ : Nod).p (if k < x.nn then _ else _ : Nod).n (if k < x.nn then _ else _ : Nod).q)
        rw [if_pos hk']
        simp only [s1, s2, s4]
        exact ⟨c0, c1, c2, c3, c4, c5, c6, c7, c8, c9, c10⟩
    · have := hy.f
      rw [← f1] at this
      exact this.ext fun k hk => (f2 k hk).symm
  · obtain ⟨g1, g2, g3, g4, g5, g6, g7, g8, g9, g10⟩ := fx
    obtain ⟨_, _, e3, _, _, _, _, e8, e9, e10⟩ := fy
    refine ⟨g1, g2, fun k => ?_, g4, g5, g6, g7, by rw [v1]; exact e8, by rw [n1]; exact e9, by rw [f1]; exact e10⟩
    show Nod.fit (if k < x.nn then _ else _)
    split
    · rename_i hk
      obtain ⟨s1, s2, s3, s4, s5⟩ := sameK_at (n2 k hk)
      obtain ⟨q1, q2, q3, q4, q5, q6, q7⟩ := g3 k
      obtain ⟨_, _, _, _, _, r6, r7⟩ := e3 k
      exact ⟨q1, q2, q3, q4, q5, by rw [s2]; exact r6, by rw [s4]; exact r7⟩
    · exact g3 k
/-- one node that is another one -/
theorem sameP_node {x y : Pr} {k : Nat} (hk : k < x.nn) (h : sameK (x.nf k) (y.nf k) = false) : sameP x y = false := by
  cases hs : sameP x y
  · rfl
  · unfold sameP at hs
    simp only [Bool.and_eq_true] at hs
    have := (eqN_at hs.2.2.1).2 k hk
    rw [h] at this
    cases this
theorem sameP_flow {x y : Pr} {k : Nat} (hk : k < x.fn) (h : (x.ff k).els ≠ (y.ff k).els) : sameP x y = false := by
  cases hs : sameP x y
  · rfl
  · unfold sameP at hs
    simp only [Bool.and_eq_true] at hs
    have := (eqF_at hs.2.2.2).2 k hk
    rw [this] at h
    exact absurd rfl h
theorem sameP_name {x y : Pr} (h : x.name ≠ y.name) : sameP x y = false := by
  unfold sameP
  rw [decide_eq_false h]
  rfl
theorem sameK_breaks {x y : Nod} (h : x.d.breaks ≠ y.d.breaks) : sameK x y = false := by
  cases hs : sameK x y
  · rfl
  · exact absurd (by rw [(sameK_at hs).1]) h
theorem sameK_back {x y : Nod} (h : x.n ≠ y.n) : sameK x y = false := by
  cases hs : sameK x y
  · rfl
  · exact absurd (sameK_at hs).2.2.2.1 h
end Go.Proofs.YtdnelpmolenkoaaDoor
