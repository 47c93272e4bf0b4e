/- What model.Flow returns. Conditions: lengths are lengths. -/
import Derived.Test.YtblebjgjomamdaaDoorMSame
namespace Go.Proofs.YtblebjgjomamdaaDoor
open Go.RowKit Go.Ow

/-- a flow -/
structure Fl where
  fr : Int
  to : Int
  iff : ByteArray
  els : Bool
def Fl.fit (f : Fl) : Prop := -9223372036854775808 ≤ f.fr ∧ f.fr ≤ 9223372036854775807 ∧ -9223372036854775808 ≤ f.to ∧ f.to ≤ 9223372036854775807 ∧ f.iff.size ≤ 9223372036854775807
abbrev flowC (f : Fl) : Array Value := #[.int .i64 f.fr, .int .i64 f.to, .string f.iff, .bool f.els]
def flowE (f : Fl) : Nat := if 100 < f.iff.size then 40 else if f.fr < 0 ∨ f.to < 0 ∨ (f.els = true ∧ f.iff.size ≠ 0) then 4 else 0

set_option maxRecDepth 100000 in
set_option maxHeartbeats 4000000 in
theorem flow_any (f : Fl) (w : World) (hf : f.fit) :
    Calls Tryd.prog 35 #[.agg (flowC f)] w fun e w' => e = .returned (.int .i64 (flowE f)) ∧ Below w.heap.size w w' := by
  obtain ⟨fr, to, iff, els⟩ := f
  obtain ⟨h1, h2, h3, h4, h5⟩ := hf
  simp only at h1 h2 h3 h4 h5
  have HB := Lib.hid ((Below.refl w.heap.size w).alloc (Nat.le_refl _) (.cells (flowC ⟨fr, to, iff, els⟩) 35))
  by_cases a1 : 100 < iff.size
  · have HE : Hid (flowE ⟨fr, to, iff, els⟩ = 40) := Lib.hid (by simp [flowE, a1])
    go_enter Tryd.func35, Tryd.ntmps35
    go_wp2
    go_ret
    exact ⟨ret_int (by rw [HE.out]; rfl), HB.out⟩
  · have a1' : iff.size ≤ 100 := by omega
    by_cases a2 : fr < 0
    · have HE : Hid (flowE ⟨fr, to, iff, els⟩ = 4) := Lib.hid (by simp [flowE, a1, a2])
      go_enter Tryd.func35, Tryd.ntmps35
      go_wp2
      go_ret
      exact ⟨ret_int (by rw [HE.out]; rfl), HB.out⟩
    · by_cases a3 : to < 0
      · have HE : Hid (flowE ⟨fr, to, iff, els⟩ = 4) := Lib.hid (by simp [flowE, a1, a3])
        go_enter Tryd.func35, Tryd.ntmps35
        go_wp2
        go_ret
        exact ⟨ret_int (by rw [HE.out]; rfl), HB.out⟩
      · cases els
        · have HE : Hid (flowE ⟨fr, to, iff, false⟩ = 0) := Lib.hid (by simp [flowE, a1, a2, a3])
          go_enter Tryd.func35, Tryd.ntmps35
          go_wp2
          go_ret
          exact ⟨ret_int (by rw [HE.out]; rfl), HB.out⟩
        · by_cases a4 : iff.size = 0
          · have HE : Hid (flowE ⟨fr, to, iff, true⟩ = 0) := Lib.hid (by simp [flowE, a2, a3, a4])
            obtain rfl := bytes_nil a4
            clear a4
            go_enter Tryd.func35, Tryd.ntmps35
            go_wp2
            go_ret
            exact ⟨ret_int (by rw [HE.out]; rfl), HB.out⟩
          · have HE : Hid (flowE ⟨fr, to, iff, true⟩ = 4) := Lib.hid (by simp [flowE, a1, a4])
            have e1 := bytes_ne a4
            have e2 := bytes_emp a4
            clear a4
            go_enter Tryd.func35, Tryd.ntmps35
            go_wp2
            go_ret
            exact ⟨ret_int (by rw [HE.out]; rfl), HB.out⟩
end Go.Proofs.YtblebjgjomamdaaDoor
