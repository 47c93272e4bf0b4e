/- What model.Vars returns: unlike over variables. Conditions: the tables as laid; lengths are lengths. -/
import Derived.Test.YtjakdbahopbggaaGreatDoorZK06
import Derived.Deep.RegionHeld3
namespace Go.Proofs.YtjakdbahopbggaaGreatDoor
open Go.RowKit Go.Ow

/-- the cells of a slice of variables -/
def Vr (w : World) (o : Option Addr) (n : Nat) (f : Nat → Va) : Prop := ∀ k, k < n → ∃ b off, o = some ⟨b, off, none⟩ ∧ b < w.heap.size ∧ w.cell? ⟨b, off + k * 4, none⟩ = some (.string (f k).nm) ∧ w.cell? ⟨b, off + k * 4 + 1, none⟩ = some (.int .u8 (f k).k) ∧ w.cell? ⟨b, off + k * 4 + 2, none⟩ = some (.int .i64 (f k).n) ∧ w.cell? ⟨b, off + k * 4 + 3, none⟩ = some (.string (f k).t)
theorem Vr.below {w wr : World} {o : Option Addr} {n : Nat} {f : Nat → Va} (h : Vr w o n f) (hb : Below w.heap.size w wr) : Vr wr o n f := fun k hk => by
  obtain ⟨b, off, h1, h2, h3, h4, h5, h6⟩ := h k hk
  exact ⟨b, off, h1, Nat.lt_of_lt_of_le h2 hb.size, by rw [hb.cell (p := ⟨b, _, none⟩) h2]; exact h3, by rw [hb.cell (p := ⟨b, _, none⟩) h2]; exact h4, by rw [hb.cell (p := ⟨b, _, none⟩) h2]; exact h5, by rw [hb.cell (p := ⟨b, _, none⟩) h2]; exact h6⟩
theorem Vr.less {w : World} {o : Option Addr} {n m : Nat} {f : Nat → Va} (h : Vr w o n f) (hm : m ≤ n) : Vr w o m f := fun k hk => h k (by omega)
/-- the two captured variables of unlike's closure: the function that names, and a variable -/
structure Cpt (w : World) (N X : Nat) (a : ByteArray) (k : Nat) (n : Int) (t : ByteArray) : Prop where
  ln : N < w.heap.size
  lx : X < w.heap.size
  f : w.cell? ⟨N, 0, none⟩ = some (.func (.func 109) #[] #[])
  c0 : w.cell? ⟨X, 0, none⟩ = some (.string a)
  c1 : w.cell? ⟨X, 1, none⟩ = some (.int .u8 k)
  c2 : w.cell? ⟨X, 2, none⟩ = some (.int .i64 n)
  c3 : w.cell? ⟨X, 3, none⟩ = some (.string t)
theorem Cpt.below {w wr : World} {N X : Nat} {a : ByteArray} {k : Nat} {n : Int} {t : ByteArray} (h : Cpt w N X a k n t) (hb : Below w.heap.size w wr) : Cpt wr N X a k n t :=
  ⟨Nat.lt_of_lt_of_le h.ln hb.size, Nat.lt_of_lt_of_le h.lx hb.size, by rw [hb.cell (p := ⟨N, 0, none⟩) h.ln]; exact h.f, by rw [hb.cell (p := ⟨X, _, none⟩) h.lx]; exact h.c0, by rw [hb.cell (p := ⟨X, _, none⟩) h.lx]; exact h.c1, by rw [hb.cell (p := ⟨X, _, none⟩) h.lx]; exact h.c2, by rw [hb.cell (p := ⟨X, _, none⟩) h.lx]; exact h.c3⟩
abbrev pt (b : Nat) : Value := .pointer (some ⟨b, 0, none⟩)

theorem vars2_S {S : World → Prop} (hS : ∀ w1 w2, S w1 → Below w1.heap.size w1 w2 → S w2) (a : ByteArray) (k : Nat) (n : Int) (t : ByteArray) (w : World) (h : S w) :
    Calls Tryz.prog 109 #[varA a k n t] w fun e w' => e = .returned (.string a) ∧ S w' :=
  (vars2_any a k n t w).mono fun _ _ ⟨he, hb⟩ => ⟨he, hS _ _ h hb⟩
set_option maxRecDepth 100000 in
set_option maxHeartbeats 4000000 in
theorem alike_any (N X : Nat) (a a' : ByteArray) (k k' : Nat) (n n' : Int) (t t' : ByteArray) (w : World) (h : Cpt w N X a' k' n' t') :
    Calls Tryz.prog 133 #[varA a k n t, pt N, pt X] w fun e w' => e = .returned (.bool (decide (a = a'))) ∧ Below w.heap.size w w' := by
  obtain ⟨hN, hX, hf, h0, h1, h2, h3⟩ := h
  have HS : Hid (∀ w1 w2, (Below w.heap.size w w1 ∧ w.heap.size < w1.heap.size ∧ w1.cell? ⟨N, 0, none⟩ = some (.func (.func 109) #[] #[]) ∧ w1.cell? ⟨w.heap.size, 0, none⟩ = some (.string a) ∧ w1.cell? ⟨w.heap.size, 1, none⟩ = some (.int .u8 k) ∧ w1.cell? ⟨w.heap.size, 2, none⟩ = some (.int .i64 n) ∧ w1.cell? ⟨w.heap.size, 3, none⟩ = some (.string t) ∧ w1.cell? ⟨X, 0, none⟩ = some (.string a') ∧ w1.cell? ⟨X, 1, none⟩ = some (.int .u8 k') ∧ w1.cell? ⟨X, 2, none⟩ = some (.int .i64 n') ∧ w1.cell? ⟨X, 3, none⟩ = some (.string t')) → Below w1.heap.size w1 w2 →
      (Below w.heap.size w w2 ∧ w.heap.size < w2.heap.size ∧ w2.cell? ⟨N, 0, none⟩ = some (.func (.func 109) #[] #[]) ∧ w2.cell? ⟨w.heap.size, 0, none⟩ = some (.string a) ∧ w2.cell? ⟨w.heap.size, 1, none⟩ = some (.int .u8 k) ∧ w2.cell? ⟨w.heap.size, 2, none⟩ = some (.int .i64 n) ∧ w2.cell? ⟨w.heap.size, 3, none⟩ = some (.string t) ∧ w2.cell? ⟨X, 0, none⟩ = some (.string a') ∧ w2.cell? ⟨X, 1, none⟩ = some (.int .u8 k') ∧ w2.cell? ⟨X, 2, none⟩ = some (.int .i64 n') ∧ w2.cell? ⟨X, 3, none⟩ = some (.string t'))) := Lib.hid (by
    rintro w1 w2 ⟨g1, g2, g3, g4, g5, g6, g7, g8, g9, g10, g11⟩ hb
    have hz := hb.size
    have c := (bcell hb).1
    refine ⟨below_step g1 hb, by omega, ?_, ?_, ?_, ?_, ?_, ?_, ?_, ?_, ?_⟩ <;> rw [c _ _ (by omega)] <;> assumption)
  have VS : Hid (∀ (a0 : ByteArray) (k0 : Nat) (n0 : Int) (t0 : ByteArray) (W : World), (Below w.heap.size w W ∧ w.heap.size < W.heap.size ∧ W.cell? ⟨N, 0, none⟩ = some (.func (.func 109) #[] #[]) ∧ W.cell? ⟨w.heap.size, 0, none⟩ = some (.string a) ∧ W.cell? ⟨w.heap.size, 1, none⟩ = some (.int .u8 k) ∧ W.cell? ⟨w.heap.size, 2, none⟩ = some (.int .i64 n) ∧ W.cell? ⟨w.heap.size, 3, none⟩ = some (.string t) ∧ W.cell? ⟨X, 0, none⟩ = some (.string a') ∧ W.cell? ⟨X, 1, none⟩ = some (.int .u8 k') ∧ W.cell? ⟨X, 2, none⟩ = some (.int .i64 n') ∧ W.cell? ⟨X, 3, none⟩ = some (.string t')) → Calls Tryz.prog 109 #[varA a0 k0 n0 t0] W fun e W => e = .returned (.string a0) ∧ (Below w.heap.size w W ∧ w.heap.size < W.heap.size ∧ W.cell? ⟨N, 0, none⟩ = some (.func (.func 109) #[] #[]) ∧ W.cell? ⟨w.heap.size, 0, none⟩ = some (.string a) ∧ W.cell? ⟨w.heap.size, 1, none⟩ = some (.int .u8 k) ∧ W.cell? ⟨w.heap.size, 2, none⟩ = some (.int .i64 n) ∧ W.cell? ⟨w.heap.size, 3, none⟩ = some (.string t) ∧ W.cell? ⟨X, 0, none⟩ = some (.string a') ∧ W.cell? ⟨X, 1, none⟩ = some (.int .u8 k') ∧ W.cell? ⟨X, 2, none⟩ = some (.int .i64 n') ∧ W.cell? ⟨X, 3, none⟩ = some (.string t'))) := Lib.hid (fun a0 k0 n0 t0 W hW => vars2_S HS.out a0 k0 n0 t0 W hW)
  clear HS
  have HB0 : Hid (Below w.heap.size w (w.alloc (.cells #[.string a, .int .u8 k, .int .i64 n, .string t] 148)).drew) := Lib.hid (((Below.refl _ _).alloc (Nat.le_refl _) _).drew)
  have hN' : ¬ N = w.heap.size := by omega
  have hX' : ¬ X = w.heap.size := by omega
  by_cases e : a = a'
  · subst e
    rw [decide_eq_true rfl]
    go_enter Tryz.func133, Tryz.ntmps133
    go_wp2
    go_region_held3 (fun w1 => Below w.heap.size w w1 ∧ w.heap.size < w1.heap.size ∧ w1.cell? ⟨N, 0, none⟩ = some (.func (.func 109) #[] #[]) ∧ w1.cell? ⟨w.heap.size, 0, none⟩ = some (.string a) ∧ w1.cell? ⟨w.heap.size, 1, none⟩ = some (.int .u8 k) ∧ w1.cell? ⟨w.heap.size, 2, none⟩ = some (.int .i64 n) ∧ w1.cell? ⟨w.heap.size, 3, none⟩ = some (.string t) ∧ w1.cell? ⟨X, 0, none⟩ = some (.string a) ∧ w1.cell? ⟨X, 1, none⟩ = some (.int .u8 k') ∧ w1.cell? ⟨X, 2, none⟩ = some (.int .i64 n') ∧ w1.cell? ⟨X, 3, none⟩ = some (.string t'))
      (first | exact hS | (refine And.intro HB0.out ?_; go_keep; done) | exact HB0.out | go_keep)
      (first | (go_at_call 109; refine (VS.out _ _ _ _ _ ?_).mono ?_; (first | assumption | exact hS); rintro e w1 ⟨rfl, hS⟩))
    go_wp2
    go_ret
    exact ⟨rfl, (by assumption : _ ∧ _).1⟩
  · rw [decide_eq_false e]
    have n1 := toList_ne e
    have n2 := toList_beq e
    clear e
    go_enter Tryz.func133, Tryz.ntmps133
    go_wp2
    go_region_held3 (fun w1 => Below w.heap.size w w1 ∧ w.heap.size < w1.heap.size ∧ w1.cell? ⟨N, 0, none⟩ = some (.func (.func 109) #[] #[]) ∧ w1.cell? ⟨w.heap.size, 0, none⟩ = some (.string a) ∧ w1.cell? ⟨w.heap.size, 1, none⟩ = some (.int .u8 k) ∧ w1.cell? ⟨w.heap.size, 2, none⟩ = some (.int .i64 n) ∧ w1.cell? ⟨w.heap.size, 3, none⟩ = some (.string t) ∧ w1.cell? ⟨X, 0, none⟩ = some (.string a') ∧ w1.cell? ⟨X, 1, none⟩ = some (.int .u8 k') ∧ w1.cell? ⟨X, 2, none⟩ = some (.int .i64 n') ∧ w1.cell? ⟨X, 3, none⟩ = some (.string t'))
      (first | exact hS | (refine And.intro HB0.out ?_; go_keep; done) | exact HB0.out | go_keep)
      (first | (go_at_call 109; refine (VS.out _ _ _ _ _ ?_).mono ?_; (first | assumption | exact hS); rintro e w1 ⟨rfl, hS⟩))
    go_wp2
    go_ret
    exact ⟨rfl, (by assumption : _ ∧ _).1⟩

theorem indexf_var (N X : Nat) (a : ByteArray) (k : Nat) (n : Int) (t : ByteArray) (o : Option Addr) (m cap : Nat) (f : Nat → Va) (w : World) (h : Vr w o m f) (hc : Cpt w N X a k n t) (hm : m ≤ 9223372036854775807) :
    Calls Tryz.prog 140 #[.slice o m cap, .func (.func 133) #[] #[pt N, pt X]] w fun e w' => e = .returned (.int .i64 (fI (fun j => decide ((f j).nm = a)) 0 m)) ∧ Below w.heap.size w w' := by
  have H := Lib.hid h
  have HC := Lib.hid hc
  clear h hc
  obtain ⟨r, hr⟩ : ∃ r, fI (fun j => decide ((f j).nm = a)) 0 m = r := ⟨_, rfl⟩
  rw [hr]
  have HR := Lib.hid hr
  clear hr
  go_enter Tryz.func140, Tryz.ntmps140
  go_wp2
  go_loopw [8] (fun i wr => ∃ j : Nat, j ≤ m ∧ i = .int .i64 j ∧ Hid (fI (fun j => decide ((f j).nm = a)) j (m - j) = r) ∧ Below w.heap.size w wr) (fun i _ => m - (intOf i).toNat)
  case atStart => exact ⟨0, Nat.zero_le _, rfl, HR, Below.refl _ _⟩
  case round =>
    obtain ⟨j, hj, rfl, HK, hB⟩ := hrel
    have HB := Lib.hid hB
    clear hB
    by_cases hlt : j < m
    · obtain ⟨b, off, rfl, hb, c0, c1, c2, c3⟩ := (H.out.below HB.out) j hlt
      have E := Lib.hid (fI_at (fun j => decide ((f j).nm = a)) j m hlt)
      have hca := fun a1 k1 n1 t1 => alike_any N X a1 a k1 k n1 n t1 t wr (HC.out.below HB.out)
      obtain ⟨v, hv⟩ : ∃ v, f j = v := ⟨_, rfl⟩
      rw [hv] at c0 c1 c2 c3 E
      clear hv
      obtain ⟨va, vk, vn, vt⟩ := v
      simp only at c0 c1 c2 c3 E
      have CA := hca va vk vn vt
      clear hca
      by_cases e : va = a
      · have HE : Hid ((j : Int) = r) := Lib.hid (by have := HK.out; rw [E.out, decide_eq_true e] at this; simpa using this)
        rw [decide_eq_true e] at CA
        have CA := Lib.hid CA
        clear e E
        go_wp2_with (go_at_call 133; refine CA.out.mono ?_; rintro e w1 ⟨rfl, hb1⟩)
        go_ret
        exact ⟨ret_int HE.out, below_step HB.out hb1⟩
      · have HE : Hid (fI (fun j => decide ((f j).nm = a)) (j + 1) (m - (j + 1)) = r) := Lib.hid (by have := HK.out; rw [E.out, decide_eq_false e] at this; simpa using this)
        rw [decide_eq_false e] at CA
        have CA := Lib.hid CA
        clear e E
        go_wp2_with (go_at_call 133; refine CA.out.mono ?_; rintro e w1 ⟨rfl, hb1⟩; have HB1 := Lib.hid (below_step HB.out hb1); clear hb1)
        go_roundw
        case rel => exact ⟨j + 1, by omega, by go_num, HE, HB1.out⟩
        case measure => simp [intOf]; omega
    · obtain rfl : j = m := by omega
      have HE : Hid (-1 = r) := Lib.hid (by have := HK.out; rw [fI_end] at this; exact this)
      go_wp2
      go_ret
      exact ⟨ret_int HE.out, HB.out⟩
theorem containsf_var (N X : Nat) (a : ByteArray) (k : Nat) (n : Int) (t : ByteArray) (o : Option Addr) (m cap : Nat) (f : Nat → Va) (w : World) (h : Vr w o m f) (hc : Cpt w N X a k n t) (hm : m ≤ 9223372036854775807) :
    Calls Tryz.prog 132 #[.slice o m cap, .func (.func 133) #[] #[pt N, pt X]] w fun e w' => e = .returned (.bool (anyB (fun j => decide ((f j).nm = a)) m)) ∧ Below w.heap.size w w' := by
  have H := Lib.hid (indexf_var N X a k n t o m cap f w h hc hm)
  unfold anyB
  clear h hc
  obtain ⟨r, hr⟩ : ∃ r, fI (fun j => decide ((f j).nm = a)) 0 m = r := ⟨_, rfl⟩
  rw [hr] at H ⊢
  clear hr
  go_enter Tryz.func132, Tryz.ntmps132
  go_wp2_with (go_at_call 140; refine H.out.mono ?_; rintro e w' ⟨rfl, hb⟩)
  go_ret
  exact ⟨rfl, hb⟩
end Go.Proofs.YtjakdbahopbggaaGreatDoor
