/- wire.Num, wire.Value and the document's answers, in one contract each: the bytes and the error as functions of the input. Conditions: the bytes and the text are not too long. -/
import Derived.Test.YtlflkmigfggdjaaWireW3
namespace Go.Proofs.Ytlflkmigfggdjaa
open Go.RowKit Go.Ow Go.Wi

/-- may a number be told -/
def numB (n : Int) : Bool := decide (0 ≤ n ∧ n ≤ 1099511627776)
def numS (s : ByteArray) (n : Int) : ByteArray := if numB n then cat s (enc n.toNat) else s
def numE (n : Int) : Int := if numB n then 0 else 1
def valS (s : ByteArray) (k : Nat) (n : Int) (t : ByteArray) : ByteArray := if may k n t then cat s (encV k n t) else s
def valE (k : Nat) (n : Int) (t : ByteArray) : Int := if may k n t then 0 else 4

theorem numB_yes {n : Int} (h : numB n = true) : 0 ≤ n ∧ n ≤ 1099511627776 := of_decide_eq_true h
theorem numB_no {n : Int} (h : numB n = false) : n < 0 ∨ 1099511627776 < n := by have := of_decide_eq_false h; omega

theorem num_all (s : ByteArray) (n : Int) (w : World) (hs : s.size ≤ 1000000) :
    Calls Try.prog 11 #[.string s, .int .i64 n] w fun e w' => e = .returned (.tuple #[.string (numS s n), .int .i64 (numE n)]) ∧ Below w.heap.size w w' := by
  cases h : numB n
  · refine (num_no s n w (numB_no h)).mono ?_
    rintro e w' ⟨rfl, rfl⟩
    exact ⟨by simp [numS, numE, h], Below.refl _ _⟩
  · obtain ⟨h0, h1⟩ := numB_yes h
    obtain ⟨m, rfl⟩ := Int.eq_ofNat_of_zero_le h0
    refine (num_yes s m w hs (by omega)).mono ?_
    rintro e w' ⟨rfl, hb⟩
    exact ⟨by simp [numS, numE, h], hb⟩
theorem rnum_all (s : ByteArray) (n : Int) (w : World) (hs : s.size ≤ 1000000) :
    Calls Try.prog 12 #[.string s, .int .i64 n] w fun e w' => e = .returned (.tuple #[.string (numS s n), .int .i64 (numE n)]) ∧ Below w.heap.size w w' := by
  cases h : numB n
  · refine (rnum_no s n w (numB_no h)).mono ?_
    rintro e w' ⟨rfl, rfl⟩
    exact ⟨by simp [numS, numE, h], Below.refl _ _⟩
  · obtain ⟨h0, h1⟩ := numB_yes h
    obtain ⟨m, rfl⟩ := Int.eq_ofNat_of_zero_le h0
    refine (rnum_yes s m w hs (by omega)).mono ?_
    rintro e w' ⟨rfl, hb⟩
    exact ⟨by simp [numS, numE, h], hb⟩
theorem value_all (s : ByteArray) (k : Nat) (n : Int) (t : ByteArray) (w : World) (hs : s.size ≤ 800000) (hk : k < 256) (h1 : -9223372036854775808 ≤ n) (h2 : n ≤ 9223372036854775807) (ht : t.size ≤ 90000) :
    Calls Try.prog 13 #[.string s, val k n t] w fun e w' => e = .returned (.tuple #[.string (valS s k n t), .int .i64 (valE k n t)]) ∧ Below w.heap.size w w' := by
  cases h : may k n t
  · refine (value_no s k n t w hk h1 h2 ht h).mono ?_
    rintro e w' ⟨rfl, hb⟩
    exact ⟨by simp [valS, valE, h], hb⟩
  · refine (value_yes s k n t w hs h1 h2 h).mono ?_
    rintro e w' ⟨rfl, hb⟩
    exact ⟨by simp [valS, valE, h], hb⟩
theorem rvalue_all (s : ByteArray) (k : Nat) (n : Int) (t : ByteArray) (w : World) (hs : s.size ≤ 800000) (hk : k < 256) (h1 : -9223372036854775808 ≤ n) (h2 : n ≤ 9223372036854775807) (ht : t.size ≤ 90000) :
    Calls Try.prog 14 #[.string s, val k n t] w fun e w' => e = .returned (.tuple #[.string (valS s k n t), .int .i64 (valE k n t)]) ∧ Below w.heap.size w w' := by
  cases h : may k n t
  · refine (rvalue_no s k n t w hk h1 h2 ht h).mono ?_
    rintro e w' ⟨rfl, hb⟩
    exact ⟨by simp [valS, valE, h], hb⟩
  · refine (rvalue_yes s k n t w hs h1 h2 h).mono ?_
    rintro e w' ⟨rfl, hb⟩
    exact ⟨by simp [valS, valE, h], hb⟩
end Go.Proofs.Ytlflkmigfggdjaa
