/- What wire's Reader.Num returns, and what it does to the reader. Conditions: the bytes are not too many. -/
import Derived.Test.YtlflkmigfggdjaaWireTake
import Derived.Test.YtlflkmigfggdjaaBut
namespace Go.Proofs.Ytlflkmigfggdjaa
open Go.RowKit Go.Ow Go.Wi

abbrev str (l : List UInt8) : Value := .string ⟨l.toArray⟩
abbrev ptr (b : Nat) : Value := .pointer (some ⟨b, 0, none⟩)
/-- the reader at block b -/
def RdW (w : World) (b : Nat) (r : Rs) : Prop := Two w b 67 (str r.l) (.int .i64 r.e)

theorem size_mk (l : List UInt8) : (⟨l.toArray⟩ : ByteArray).size = l.length := by show l.toArray.size = _; simp

theorem take_err (b : Nat) (l : List UInt8) (most c : Nat) (w : World) (hs : l.length ≤ 1000000) (hc : w.cell? ⟨b, 0, none⟩ = some (str l)) (hf : w.frozen? ⟨b, 0, none⟩ = false) (h : scan most 0 0 l = .error c) :
    Calls Try.prog 40 #[ptr b, .int .u64 most] w fun e w' => e = .returned (.tuple #[.int .u64 0, .int .i64 c]) ∧ w = w' := by
  refine (take_any b ⟨l.toArray⟩ most w (by rw [size_mk]; exact hs) hc hf).mono ?_
  intro e w' hp
  simp only [h] at hp
  exact ⟨hp.1, hp.2.symm⟩
theorem take_ok (b : Nat) (l : List UInt8) (most n : Nat) (l' : List UInt8) (w : World) (hs : l.length ≤ 1000000) (hc : w.cell? ⟨b, 0, none⟩ = some (str l)) (hf : w.frozen? ⟨b, 0, none⟩ = false) (h : scan most 0 0 l = .ok (n, l')) :
    Calls Try.prog 40 #[ptr b, .int .u64 most] w fun e w' => e = .returned (.tuple #[.int .u64 n, .int .i64 0]) ∧ w' = w.setCell ⟨b, 0, none⟩ (str l') := by
  refine (take_any b ⟨l.toArray⟩ most w (by rw [size_mk]; exact hs) hc hf).mono ?_
  intro e w' hp
  simp only [h] at hp
  exact hp

theorem num46_err (B b : Nat) (l : List UInt8) (c : Nat) (w : World) (hs : l.length ≤ 1000000) (hB : w.cell? ⟨B, 0, none⟩ = some (ptr b)) (hc : w.cell? ⟨b, 0, none⟩ = some (str l)) (hf : w.frozen? ⟨b, 0, none⟩ = false) (h : scan 1099511627776 0 0 l = .error c) :
    Calls Try.prog 46 #[ptr B] w fun e w' => e = .returned (.tuple #[.int .i64 0, .int .i64 c]) ∧ w = w' := by
  have HH := Lib.hid h
  clear h
  go_enter Try.func46, Try.ntmps46
  go_wp2_with (go_at_call 40; refine (take_err b l 1099511627776 c w hs hc hf HH.out).mono ?_; rintro e w' ⟨rfl, rfl⟩)
  go_ret2
  exact ⟨rfl, rfl⟩
theorem num46_ok (B b : Nat) (l : List UInt8) (n : Nat) (l' : List UInt8) (w : World) (hs : l.length ≤ 1000000) (hB : w.cell? ⟨B, 0, none⟩ = some (ptr b)) (hc : w.cell? ⟨b, 0, none⟩ = some (str l)) (hf : w.frozen? ⟨b, 0, none⟩ = false) (h : scan 1099511627776 0 0 l = .ok (n, l')) (hn : n ≤ 1099511627776) :
    Calls Try.prog 46 #[ptr B] w fun e w' => e = .returned (.tuple #[.int .i64 n, .int .i64 0]) ∧ w' = w.setCell ⟨b, 0, none⟩ (str l') := by
  have HH := Lib.hid h
  clear h
  go_enter Try.func46, Try.ntmps46
  go_wp2_with (go_at_call 40; refine (take_ok b l 1099511627776 n l' w hs hc hf HH.out).mono ?_; rintro e w' ⟨rfl, rfl⟩)
  go_ret2
  exact ⟨rfl, rfl⟩
end Go.Proofs.Ytlflkmigfggdjaa
