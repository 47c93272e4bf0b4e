/- What wire's Reader.Value returns, and what it does to the reader. Conditions: the bytes are not too many. -/
import Derived.Test.YtlflkmigfggdjaaWireV1
namespace Go.Wi
/-- a value that a reader reads: Kind, N, T -/
structure Vl where
  k : Nat
  n : Int
  t : List UInt8
def Vl.zero : Vl := ⟨0, 0, []⟩
def Rs.value (r : Rs) : (Vl × Nat) × Rs :=
  match r.num 1099511627776 with
  | ((k, e), r1) =>
    if e ≠ 0 then ((Vl.zero, e), r1)
    else if 3 < k then ((Vl.zero, 4), ⟨[], 4⟩)
    else if k = 1 then match r1.int with
      | ((x, e), r2) => if e ≠ 0 then ((Vl.zero, e), ⟨[], e⟩) else ((⟨1, x, []⟩, 0), r2)
    else if k = 2 then match r1.num 1099511627776 with
      | ((x, e), r2) => if e ≠ 0 then ((Vl.zero, e), ⟨[], e⟩) else if 1 < x then ((Vl.zero, 4), ⟨[], 4⟩) else ((⟨2, x, []⟩, 0), r2)
    else if k = 3 then match r1.text 40 with
      | ((t, e), r2) => if e ≠ 0 then ((Vl.zero, e), ⟨[], e⟩) else ((⟨3, 0, t⟩, 0), r2)
    else ((Vl.zero, 0), r1)

theorem Rs.num_ok {most n : Nat} {l : List UInt8} {r2 : Rs} (h : (Rs.mk l 0).num most = ((n, 0), r2)) : r2.e = 0 ∧ n ≤ most ∧ r2.l.length < l.length ∧ scan most 0 0 l = .ok (n, r2.l) := by
  unfold Rs.num at h
  simp only [ne_eq, not_true_eq_false, if_false] at h
  cases hs : scan most 0 0 l with
  | error c =>
    rw [hs] at h
    simp only [Prod.mk.injEq] at h
    have := Go.Proofs.Ytlflkmigfggdjaa.scan_err _ _ _ _ _ hs
    omega
  | ok p =>
    obtain ⟨m, l'⟩ := p
    rw [hs] at h
    simp only [Prod.mk.injEq] at h
    obtain ⟨⟨rfl, _⟩, rfl⟩ := h
    have := Go.Proofs.Ytlflkmigfggdjaa.scan_le _ _ _ _ _ _ hs
    exact ⟨rfl, this.1, this.2, rfl⟩
theorem Rs.int_ok {x : Int} {l : List UInt8} {r2 : Rs} (h : (Rs.mk l 0).int = ((x, 0), r2)) : r2.e = 0 ∧ r2.l.length < l.length ∧ ∃ n, scan 18446744073709551615 0 0 l = .ok (n, r2.l) ∧ x = zag n := by
  unfold Rs.int at h
  cases hn : (Rs.mk l 0).num 18446744073709551615 with
  | mk p r' =>
    obtain ⟨n, e⟩ := p
    rw [hn] at h
    simp only at h
    split at h
    · simp only [Prod.mk.injEq] at h
      omega
    · rename_i he
      have he : e = 0 := by omega
      subst he
      simp only [Prod.mk.injEq] at h
      obtain ⟨⟨rfl, _⟩, rfl⟩ := h
      have := Rs.num_ok hn
      exact ⟨this.1, this.2.2.1, n, this.2.2.2, rfl⟩
theorem Rs.text_ok {m : Int} {t l : List UInt8} {r2 : Rs} (h : (Rs.mk l 0).text m = ((t, 0), r2)) : r2.e = 0 ∧ r2.l.length < l.length ∧ (t.length : Int) ≤ m ∧ ∃ l', scan 1099511627776 0 0 l = .ok (t.length, l') ∧ l' = t ++ r2.l := by
  unfold Rs.text at h
  cases hn : (Rs.mk l 0).num 1099511627776 with
  | mk p r' =>
    obtain ⟨n, e⟩ := p
    rw [hn] at h
    simp only at h
    split at h
    · simp only [Prod.mk.injEq] at h
      omega
    · rename_i he
      have he : e = 0 := by omega
      subst he
      have h4 := Rs.num_ok hn
      split at h
      · simp at h
      · split at h
        · simp at h
        · simp only [Prod.mk.injEq] at h
          obtain ⟨⟨rfl, _⟩, rfl⟩ := h
          have hlen : (r'.l.take n).length = n := by rw [List.length_take]; omega
          refine ⟨rfl, ?_, by rw [hlen]; omega, r'.l, by rw [hlen]; exact h4.2.2.2, by simp⟩
          simp only [List.length_drop]
          omega
end Go.Wi
namespace Go.Proofs.Ytlflkmigfggdjaa
open Go.RowKit Go.Ow Go.Wi

/-- a value's data -/
abbrev valOf (v : Vl) : Value := vVal v.k v.n ⟨v.t.toArray⟩
abbrev capV (w : World) (b : Nat) : World := (w.alloc (.cells #[ptr b] 37)).alloc obj0
theorem capv_facts {w : World} {b : Nat} {x y : Value} (h : Two w b 67 x y) : Two ((capV w b).alloc obj0) b 67 x y ∧ Cap ((capV w b).alloc obj0) w.heap.size b (ptr b) ∧ Two (capV w b) b 67 x y := by
  have hl := h.lt
  refine ⟨((h.al _).al _).al _, ⟨?_, by simp; omega, by omega⟩, (h.al _).al _⟩
  have h1 := (But.alloc b (w.alloc (.cells #[ptr b] 37)) obj0).cell (k := w.heap.size) (o := 0) (by simp) (by omega)
  have h2 := (But.alloc b (capV w b) obj0).cell (k := w.heap.size) (o := 0) (by simp; omega) (by omega)
  rw [h2, h1]; simp
set_option maxHeartbeats 1000000 in
/-- Reader.Value, by what read[Value] comes to -/
theorem value24 (b : Nat) (v : Vl) (c : Nat) (r2 : Rs) (w : World) (hlt : b < w.heap.size)
    (H : Calls Try.prog 43 #[ptr b, .func (Fn.func 44) #[] #[ptr w.heap.size]] (capV w b) fun e w' => e = .returned (.tuple #[valOf v, .int .i64 c]) ∧ But b (capV w b) w' ∧ RdW w' b r2) :
    Calls Try.prog 24 #[ptr b] w fun e w' => e = .returned (.tuple #[valOf v, .int .i64 c]) ∧ But b w w' ∧ RdW w' b r2 := by
  have H := Lib.hid H
  have h0 := three_new (w.alloc (.cells #[ptr b] 37)) (.int .u8 0) (.int .i64 0) (.string ⟨#[]⟩)
  have hz : (w.alloc (.cells #[ptr b] 37)).heap.size = w.heap.size + 1 := by simp
  rw [hz] at h0
  have H0 := Lib.hid h0
  clear h0 hz
  go_enter Try.func24, Try.ntmps24
  go_wp2_with (go_at_call 43; refine H.out.mono ?_; rintro e w1 ⟨rfl, hb, h2⟩; have hV := H0.out.kept hb (by omega); have v0 := hV.c0; have v1 := hV.c1; have v2 := hV.c2; have g0 := hV.fz 0; have g1 := hV.fz 1; have g2 := hV.fz 2; have hV' := hV.lt; clear hV)
  have hW := ((But.alloc b w (.cells #[ptr b] 37)).trans (But.alloc b _ obj0)).trans hb
  have h2' : Two w1 b 67 _ _ := h2
  clear H H0
  refine bodyPost_ret (v := .tuple #[valOf v, .int .i64 c]) (by simp [results, Try.results24, go_sem, *]) rfl ⟨rfl, ?_, ?_⟩
  · exact ((hW.sn _ _ (by omega)).sn _ _ (by omega)).sn _ _ (by omega)
  · exact ((h2'.sn _ _ (by omega)).sn _ _ (by omega)).sn _ _ (by omega)

theorem Rs.num_e {most n c : Nat} {l : List UInt8} {r2 : Rs} (h : (Rs.mk l 0).num most = ((n, c), r2)) (hc : c ≠ 0) : r2 = ⟨[], c⟩ ∧ n = 0 := by
  unfold Rs.num at h
  simp only [ne_eq, not_true_eq_false, if_false] at h
  cases hs : scan most 0 0 l with
  | error c' =>
    rw [hs] at h
    simp only [Prod.mk.injEq] at h
    obtain ⟨⟨rfl, rfl⟩, rfl⟩ := h
    exact ⟨rfl, rfl⟩
  | ok p =>
    obtain ⟨m, l'⟩ := p
    rw [hs] at h
    simp only [Prod.mk.injEq] at h
    omega

theorem valueW_any (b : Nat) (r : Rs) (w : World) (hr : RdW w b r) (hl : r.l.length ≤ 1000000) :
    Calls Try.prog 24 #[ptr b] w fun e w' => e = .returned (.tuple #[valOf r.value.1.1, .int .i64 r.value.1.2]) ∧ But b w w' ∧ RdW w' b r.value.2 := by
  obtain ⟨l, c⟩ := r
  have hr' : Two w b 67 (str l) (.int .i64 c) := hr
  have hlt := hr'.lt
  obtain ⟨k1, k2, k3⟩ := capv_facts hr'
  refine value24 b _ _ _ w hlt ?_
  by_cases hc : c = 0
  · subst hc
    cases hn : (Rs.mk l 0).num 1099511627776 with
    | mk p r1 =>
      obtain ⟨k, c⟩ := p
      by_cases hc : c = 0
      · subst hc
        obtain ⟨e1, e2, e3, hs⟩ := Rs.num_ok hn
        obtain ⟨l', e'⟩ := r1
        simp only at e1
        subst e1
        simp only at hs e3
        simp only [Rs.value, hn, ne_eq, not_true_eq_false, if_false]
        by_cases h3 : 3 < k
        · rw [if_pos h3]
          exact readValue_err b 4 _ 0 0 ⟨#[]⟩ _ _ (by decide) k3 (val44_big _ b l l' k _ hl k2 k1 hs h3)
        rw [if_neg h3]
        by_cases h1 : k = 1
        · subst h1
          rw [if_pos rfl]
          cases hi : (Rs.mk l' 0).int with
          | mk p r2 =>
            obtain ⟨x, c⟩ := p
            have hcl := val44_int _ b l l' x c r2 _ hl k2 k1 hs hi
            by_cases hc : c = 0
            · subst hc
              obtain ⟨i1, _, _⟩ := Rs.int_ok hi
              obtain ⟨l2, e2⟩ := r2
              simp only at i1
              subst i1
              simp only [not_true_eq_false, if_false]
              exact readValue_ok b _ 1 x ⟨#[]⟩ l2 _ _ k3 hcl
            · simp only [hc, not_false_eq_true, if_true]
              exact readValue_err b c _ 1 x ⟨#[]⟩ _ _ hc k3 (hcl.mono fun e w' h => ⟨h.1, h.2.1, _, _, h.2.2⟩)
        rw [if_neg h1]
        by_cases h2 : k = 2
        · subst h2
          rw [if_pos rfl]
          cases hi : (Rs.mk l' 0).num 1099511627776 with
          | mk p r2 =>
            obtain ⟨x, c⟩ := p
            by_cases hc : c = 0
            · subst hc
              obtain ⟨i1, hx, _⟩ := Rs.num_ok hi
              obtain ⟨l2, e2⟩ := r2
              simp only at i1
              subst i1
              simp only [not_true_eq_false, if_false]
              by_cases hx1 : 1 < x
              · rw [if_pos hx1]
                exact readValue_err b 4 _ 2 x ⟨#[]⟩ _ _ (by decide) k3 (val44_bool_big _ b l l' x _ _ hl k2 k1 hs hi hx1 hx)
              · rw [if_neg hx1]
                exact readValue_ok b _ 2 x ⟨#[]⟩ l2 _ _ k3 (val44_bool _ b l l' x _ _ hl k2 k1 hs hi (by omega))
            · simp only [hc, not_false_eq_true, if_true]
              exact readValue_err b c _ 2 x ⟨#[]⟩ _ _ hc k3 (val44_bool_err _ b l l' x c r2 _ hl k2 k1 hs hi hc)
        rw [if_neg h2]
        by_cases h3' : k = 3
        · subst h3'
          rw [if_pos rfl]
          cases hi : (Rs.mk l' 0).text 40 with
          | mk p r2 =>
            obtain ⟨x, c⟩ := p
            have hcl := val44_text _ b l l' x c r2 _ hl k2 k1 hs hi
            by_cases hc : c = 0
            · subst hc
              obtain ⟨i1, _, _⟩ := Rs.text_ok hi
              obtain ⟨l2, e2⟩ := r2
              simp only at i1
              subst i1
              simp only [not_true_eq_false, if_false]
              exact readValue_ok b _ 3 0 ⟨x.toArray⟩ l2 _ _ k3 hcl
            · simp only [hc, not_false_eq_true, if_true]
              exact readValue_err b c _ 3 0 ⟨x.toArray⟩ _ _ hc k3 (hcl.mono fun e w' h => ⟨h.1, h.2.1, _, _, h.2.2⟩)
        rw [if_neg h3']
        obtain rfl : k = 0 := by omega
        exact readValue_ok b _ 0 0 ⟨#[]⟩ l' _ _ k3 (val44_none _ b l l' _ hl k2 k1 hs)
      · obtain ⟨e1, e2⟩ := Rs.num_e hn hc
        subst e1
        subst e2
        have hs : scan 1099511627776 0 0 l = .error c := by
          unfold Rs.num at hn
          simp only [ne_eq, not_true_eq_false, if_false] at hn
          cases hs : scan 1099511627776 0 0 l with
          | error c' => rw [hs] at hn; simp only [Prod.mk.injEq] at hn; rw [hn.1.2]
          | ok p => rw [hs] at hn; simp only [Prod.mk.injEq] at hn; omega
        simp only [Rs.value, hn, ne_eq, hc, not_false_eq_true, if_true]
        exact readValue_err b c _ 0 0 ⟨#[]⟩ _ _ hc k3 (val44_err _ b l c _ hl k2 k1 hs)
  · have hn : (Rs.mk l c).num 1099511627776 = ((0, c), ⟨l, c⟩) := by simp [Rs.num, hc]
    simp only [Rs.value, hn, ne_eq, hc, not_false_eq_true, if_true]
    exact readValue_bad b c _ _ _ hc k3

end Go.Proofs.Ytlflkmigfggdjaa
