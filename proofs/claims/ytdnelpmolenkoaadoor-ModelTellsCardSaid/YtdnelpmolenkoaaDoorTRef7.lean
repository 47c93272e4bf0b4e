/- A node's error by model.Node's stages is its error by callboardref14.Node's. Conditions: none. -/
import Derived.Test.YtdnelpmolenkoaaDoorTRef6
import Derived.Test.YtdnelpmolenkoaaDoorMAlike
namespace Go.Proofs.YtdnelpmolenkoaaDoor
open Go.RowKit Go.Ow

theorem cond_and (c a x : Bool) : (cond c (a && x) x = true) = ((c = true → a = true) ∧ x = true) := by cases c <;> simp
theorem emp_size {s : ByteArray} : s = ⟨#[]⟩ ↔ s.size = 0 := ⟨fun h => by rw [h]; rfl, bytes_nil⟩
theorem evB_c1 {d : Nd} (h : evB d.kind d.event = true) (h1 : nC1 d = true) : nC2 d = false := by
  rw [evB_iff] at h
  simp only [nC1, Bool.or_eq_true, decide_eq_true_eq] at h1
  simp only [nC2, Bool.or_eq_false_iff, decide_eq_false_iff_not]
  omega
def moP (d : Nd) (m : Nat) (f : Nat → Va) (n : Nat) (g : Nat → ByteArray) : Prop :=
  (isName d.name = true ∧ -1 ≤ d.inn ∧ evB d.kind d.event = true) ∧ keyB d = true ∧ (nC3 d = decide (d.text.size ≠ 0)) ∧ rC10 d = false ∧ rC5 d = false ∧ rC13 d = false ∧ (scopeB d.kind = false → m = 0) ∧ (d.kind ≠ 14 → n = 0) ∧ varsE m f = 0 ∧ unlikeS g 0 n = true
theorem sameD_iff (d : Nd) (m n : Nat) (f : Nat → Va) (g : Nat → ByteArray) (c c' : Bool) : sameD (nRest d) nZero f f g g (cond c 0 m) 0 (cond c' 0 n) 0 = true ↔ (k2 d).size = 0 ∧ (t3 d).size = 0 ∧ (s4 d).size = 0 ∧ b6 d = false ∧ (c = false → m = 0) ∧ (c' = false → n = 0) := by
  have hV : ∀ (c : Bool) (m : Nat), eqV (cond c 0 m) 0 f f = true ↔ (c = false → m = 0) := fun c m => by
    cases c
    · by_cases h : m = 0
      · subst h; simp [eqV, allF]
      · simp [eqV, h]
    · simp [eqV, allF]
  have hS : ∀ (c : Bool) (m : Nat), eqS (cond c 0 m) 0 g g = true ↔ (c = false → m = 0) := fun c m => by
    cases c
    · by_cases h : m = 0
      · subst h; simp [eqS, allF]
      · simp [eqS, h]
    · simp [eqS, allF]
  have hN : sameN (nRest d) nZero = true ↔ (k2 d).size = 0 ∧ (t3 d).size = 0 ∧ (s4 d).size = 0 ∧ b6 d = false := by
    rw [← emp_size, ← emp_size, ← emp_size]
    constructor
    · intro h
      have e := sameN_eq h
      exact ⟨congrArg Nd.key e, congrArg Nd.text e, congrArg Nd.set e, congrArg Nd.breaks e⟩
    · rintro ⟨h1, h2, h3, h4⟩
      have e : nRest d = nZero := by unfold nRest nZero; rw [h1, h2, h3, h4]
      rw [e]
      exact sameN_refl _
  unfold sameD
  rw [Bool.and_eq_true, Bool.and_eq_true, hN, hV, hS]
  constructor
  · rintro ⟨⟨a, b, c, d⟩, e, f⟩; exact ⟨a, b, c, d, e, f⟩
  · rintro ⟨a, b, c, d, e, f⟩; exact ⟨⟨a, b, c, d⟩, e, f⟩
theorem mo_iff (d : Nd) (m : Nat) (f : Nat → Va) (n : Nat) (g : Nat → ByteArray) :
    (nOk8 d m f n g && sameD (nRest d) nZero f f g g (cond (scopeB d.kind) 0 m) 0 (cond (nC8 d) 0 n) 0) = true ↔ moP d m f n g := by
  rw [Bool.and_eq_true, sameD_iff]
  unfold nOk8 nOk7 nOk6 nOk5 nOk4 nOk3 nOk2 nOk1 nOk0 moP
  simp only [cond_and, Bool.and_eq_true, decide_eq_true_eq]
  have v0 : varsE 0 f = 0 := rfl
  have u0 : unlikeS g 0 0 = true := rfl
  have e14 : nC8 d = true ↔ d.kind = 14 := by simp [nC8]
  have e14' : nC8 d = false ↔ d.kind ≠ 14 := by simp [nC8]
  constructor
  · rintro ⟨⟨hb, hv, hbr, hon, hst, htx, hk2, hk1, hnm, hin, hev⟩, r1, r2, r3, r4, r5, r6⟩
    refine ⟨⟨hnm, hin, hev⟩, ?_, ?_, ?_, ?_, ?_, r5, fun h => r6 (e14'.2 h), ?_, ?_⟩
    · unfold keyB
      cases h1 : nC1 d
      · cases h2 : nC2 d
        · simp only [k2, k1, h1, h2, cond_false] at r1
          simpa using r1
        · have := hk2 h2
          simp only [k1, h1, cond_false] at this
          simpa [pKeyH] using this
      · simpa using hk1 h1
    · cases h3 : nC3 d
      · simp only [t3, h3, cond_false] at r2
        simp [r2]
      · have := htx h3
        simp only [pText, decide_eq_true_eq] at this
        simp [this]
    · unfold rC10
      by_cases h4 : d.kind = 4
      · have := hst (by simp [nC4, h4])
        simp [h4, this]
      · have h4' : nC4 d = false := by simp [nC4, h4]
        simp only [s4, h4', cond_false] at r3
        simp [h4, r3]
    · unfold pOn at hon
      rw [decide_eq_true_eq] at hon
      unfold rC5
      rw [decide_eq_false_iff_not]
      omega
    · unfold rC13
      cases h6 : nC6 d
      · simp only [b6, h6, cond_false] at r4
        have : d.kind ≠ 15 := fun h => by simp [nC6, h] at h6
        simp [r4, this]
      · have := hbr h6
        unfold pBr at this
        cases hbk : d.breaks
        · rw [hbk] at this
          simp only [Bool.false_or, Bool.or_eq_true, decide_eq_true_eq] at this
          simp
          omega
        · simp
    · cases hs : scopeB d.kind
      · rw [r5 hs]; exact v0
      · exact hv hs
    · by_cases h : d.kind = 14
      · exact hb (e14.2 h)
      · rw [r6 (e14'.2 h)]; exact u0
  · rintro ⟨⟨hnm, hin, hev⟩, hk, htx, hst, hon, hbr, hm, hn, hv, hu⟩
    have ex := evB_c1 hev
    unfold keyB at hk
    refine ⟨⟨fun _ => hu, fun _ => hv, fun h6 => ?_, ?_, fun h4 => ?_, fun h3 => ?_, fun h2 => ?_, fun h1 => ?_, hnm, hin, hev⟩, ?_, ?_, ?_, ?_, hm, fun h => hn (e14'.1 h)⟩
    · unfold rC13 at hbr
      unfold pBr
      cases hbk : d.breaks
      · rw [hbk] at hbr
        simp only [Bool.false_and, Bool.false_or, Bool.not_false, Bool.and_true, decide_eq_false_iff_not] at hbr
        simp only [Bool.false_or, Bool.or_eq_true, decide_eq_true_eq]
        omega
      · rfl
    · unfold rC5 at hon
      rw [decide_eq_false_iff_not] at hon
      unfold pOn
      rw [decide_eq_true_eq]
      omega
    · unfold rC10 at hst
      have : d.kind = 4 := by simpa [nC4] using h4
      simpa [this] using hst
    · rw [h3] at htx
      unfold pText
      exact htx.symm
    · cases h1 : nC1 d
      · rw [h1, h2] at hk
        simp only [k1, h1, cond_false]
        simpa [pKeyH] using hk
      · rw [ex h1] at h2; cases h2
    · rw [h1] at hk
      exact hk
    · cases h1 : nC1 d
      · cases h2 : nC2 d
        · rw [h1, h2] at hk
          simp only [k2, k1, h1, h2, cond_false]
          simpa using hk
        · simp only [k2, h2, cond_true]; rfl
      · simp only [k2, k1, h1, ex h1, cond_true, cond_false]; rfl
    · cases h3 : nC3 d
      · rw [h3] at htx
        simp only [t3, h3, cond_false]
        have := htx.symm
        simpa using this
      · simp only [t3, h3, cond_true]; rfl
    · unfold rC10 at hst
      by_cases h4 : d.kind = 4
      · simp only [s4, show nC4 d = true by simp [nC4, h4], cond_true]; rfl
      · simp only [s4, show nC4 d = false by simp [nC4, h4], cond_false]
        simpa [h4] using hst
    · unfold rC13 at hbr
      cases h6 : nC6 d
      · rw [h6] at hbr
        simp only [b6, h6, cond_false]
        simp only [Bool.not_false, Bool.and_true, Bool.or_eq_false_iff] at hbr
        exact hbr.1
      · simp only [b6, h6, cond_true]
theorem ref_iff (d : Nd) (m : Nat) (f : Nat → Va) (n : Nat) (g : Nat → ByteArray) (h1 : ¬ (100 < d.text.size ∨ 8 < m ∨ 8 < n)) : refE d m f n g = 0 ↔ moP d m f n g := by
  have s1 : rC3 d = false ↔ (isName d.name = true ∧ -1 ≤ d.inn ∧ evB d.kind d.event = true) ∧ keyB d = true := by
    unfold rC3
    simp only [Bool.or_eq_false_iff, Bool.not_eq_false', decide_eq_false_iff_not]
    constructor
    · rintro ⟨a, b, c, e⟩; exact ⟨⟨a, by omega, c⟩, e⟩
    · rintro ⟨⟨a, b, c⟩, e⟩; exact ⟨a, by omega, c, e⟩
  have s2 : rC8 d = false ↔ nC3 d = decide (d.text.size ≠ 0) := by
    unfold rC8
    rw [bne_eq_false_iff_eq]
  have s3 : rC15 d m n = false ↔ (scopeB d.kind = false → m = 0) ∧ (d.kind ≠ 14 → n = 0) := by
    unfold rC15
    rw [Bool.or_eq_false_iff]
    cases scopeB d.kind <;> by_cases hk : d.kind = 14 <;> simp [hk]
  unfold refE moP
  rw [if_neg h1]
  have fin : ∀ (b : Bool) (x : Nat), cond b 4 x = 0 ↔ b = false ∧ x = 0 := fun b x => by cases b <;> simp
  have fin' : ∀ (b : Bool) (x : Nat), cond b x 4 = 0 ↔ b = true ∧ x = 0 := fun b x => by cases b <;> simp
  rw [fin, fin, fin, fin, fin, fin, fin', s1, s2, s3]
  constructor
  · rintro ⟨⟨a, b⟩, c, d, e, f, ⟨g, h⟩, i, j⟩; exact ⟨a, b, d, e, c, f, g, h, j, i⟩
  · rintro ⟨a, b, d, e, c, f, g, h, j, i⟩; exact ⟨⟨a, b⟩, c, d, e, f, ⟨g, h⟩, i, j⟩
theorem ref_cases (d : Nd) (m : Nat) (f : Nat → Va) (n : Nat) (g : Nat → ByteArray) (h1 : ¬ (100 < d.text.size ∨ 8 < m ∨ 8 < n)) : refE d m f n g = 0 ∨ refE d m f n g = 4 := by
  unfold refE
  rw [if_neg h1]
  have hv : varsE m f = 0 ∨ varsE m f = 4 := by
    unfold varsE
    rw [if_neg (by omega)]
    cases unlikeF f 0 m <;> simp
  cases rC3 d <;> cases rC5 d <;> cases rC8 d <;> cases rC10 d <;> cases rC13 d <;> cases rC15 d m n <;> cases unlikeS g 0 n <;> simp [hv]
theorem ref_node (d : Nd) (m : Nat) (f : Nat → Va) (n : Nat) (g : Nat → ByteArray) : refE d m f n g = nodeE d m f n g := by
  by_cases h1 : 100 < d.text.size ∨ 8 < m ∨ 8 < n
  · unfold refE nodeE
    rw [if_pos h1, if_pos h1]
  · have hr := ref_iff d m f n g h1
    have hm := mo_iff d m f n g
    unfold nodeE
    rw [if_neg h1]
    cases hb : (nOk8 d m f n g && sameD (nRest d) nZero f f g g (cond (scopeB d.kind) 0 m) 0 (cond (nC8 d) 0 n) 0)
    · rcases ref_cases d m f n g h1 with h | h
      · rw [hm.2 (hr.1 h)] at hb; cases hb
      · exact h
    · exact hr.2 (hm.1 hb)
/-- callboardref14.Node is model.Node -/
theorem rnode_all (x : Nod) (w : World) (h : x.at w) (hx : x.fit) :
    Calls Tryd.prog 21 #[.agg x.cs] w fun r w' => r = .returned (.int .i64 x.e) ∧ Below w.heap.size w w' := by
  have e : x.e = refE x.d x.m x.f x.n x.g := (ref_node _ _ _ _ _).symm
  rw [e]
  by_cases h1 : 100 < x.d.text.size ∨ 8 < x.m ∨ 8 < x.n
  · exact rnode_few x.d x.o x.p x.m x.c x.n x.q x.f x.g w hx.1.2.2.2.2.2.2.2.2.1 hx.2.2.2.1 hx.2.2.2.2.1 h1
  · exact rnode_any x.d x.o x.p x.m x.c x.n x.q x.f x.g w h.1 h.2 hx.2.1 hx.2.2.1 hx.1 (by omega) (by omega) (by omega)
end Go.Proofs.YtdnelpmolenkoaaDoor
