/- Two nodes' plain fields as interfaces, compared. Conditions: none. -/
import Derived.Test.YtblebjgjomamdaaDoorMSame
import Derived.Lib.IfaceEq
namespace Go.Proofs.YtblebjgjomamdaaDoor
open Go.RowKit Go.Ow
theorem comp9 : (Tryd.prog.info? 9).map (·.comparable) = some true := by kernel_rfl
theorem comp5 : (Tryd.prog.info? 5).map (·.comparable) = some true := by kernel_rfl
theorem comp3 : (Tryd.prog.info? 3).map (·.comparable) = some true := by kernel_rfl
theorem comp4 : (Tryd.prog.info? 4).map (·.comparable) = some true := by kernel_rfl
theorem eqIn_str (d : Nat) (a b : ByteArray) (w : World) : (Op.equalIn (d + 2) 20 (.iface 9 (.string a)) (.iface 9 (.string b))).run Tryd.prog w = .ok (a == b) w := by
  cases hi : Tryd.prog.info? 9 with
  | none => have := comp9; simp [hi] at this
  | some i =>
    have hcc : i.comparable = true := by have := comp9; simpa [hi] using this
    simp [Op.equalIn, run_underlying Tryd.underlying20, run_underlying Tryd.underlying9, typeInfo, hi, hcc]
theorem eqIn_u8 (d : Nat) (a b : Int) (w : World) : (Op.equalIn (d + 2) 20 (.iface 5 (.int .u8 a)) (.iface 5 (.int .u8 b))).run Tryd.prog w = .ok (a == b) w := by
  cases hi : Tryd.prog.info? 5 with
  | none => have := comp5; simp [hi] at this
  | some i =>
    have hcc : i.comparable = true := by have := comp5; simpa [hi] using this
    simp [Op.equalIn, run_underlying Tryd.underlying20, run_underlying Tryd.underlying5, typeInfo, hi, hcc]
theorem eqIn_i64 (d : Nat) (a b : Int) (w : World) : (Op.equalIn (d + 2) 20 (.iface 3 (.int .i64 a)) (.iface 3 (.int .i64 b))).run Tryd.prog w = .ok (a == b) w := by
  cases hi : Tryd.prog.info? 3 with
  | none => have := comp3; simp [hi] at this
  | some i =>
    have hcc : i.comparable = true := by have := comp3; simpa [hi] using this
    simp [Op.equalIn, run_underlying Tryd.underlying20, run_underlying Tryd.underlying3, typeInfo, hi, hcc]
theorem eqIn_bool (d : Nat) (a b : Bool) (w : World) : (Op.equalIn (d + 2) 20 (.iface 4 (.bool a)) (.iface 4 (.bool b))).run Tryd.prog w = .ok (a == b) w := by
  cases hi : Tryd.prog.info? 4 with
  | none => have := comp4; simp [hi] at this
  | some i =>
    have hcc : i.comparable = true := by have := comp4; simpa [hi] using this
    simp [Op.equalIn, run_underlying Tryd.underlying20, run_underlying Tryd.underlying4, typeInfo, hi, hcc]
theorem size20 : (Tryd.prog.info? 20).map (·.size) = some 1 := by kernel_rfl
def sameN (d e : Nd) : Bool := d.name == e.name && ((d.kind : Int) == e.kind && (d.inn == e.inn && (d.on == e.on && ((d.event : Int) == e.event && (d.key == e.key && (d.text == e.text && (d.set == e.set && (d.breaks == e.breaks))))))))
theorem eqIn_one (d e : Nd) (k : Nat) (w : World) : (Op.equalIn (k + 3) 138 (.agg (oneC d)) (.agg (oneC e))).run Tryd.prog w = .ok (sameN d e) w := by
  rw [Op.equalIn]
  have hp : ∀ (a : Array Value) (i : Nat) (w : World), (part 20 a i).run Tryd.prog w = match a[i]? with
      | some v => .ok v w
      | none => (stuck (α := Value) "part: no such cell").run Tryd.prog w := fun a i w => by
    simp [part]
    cases a[i]? <;> simp
  simp [run_underlying Tryd.underlying138, oneC, List.range', hp, eqIn_str, eqIn_u8, eqIn_i64, eqIn_bool]
  unfold sameN
  by_cases h1 : (d.kind : Int) = e.kind <;> by_cases h2 : d.inn = e.inn <;> by_cases h3 : d.on = e.on <;> by_cases h4 : (d.event : Int) = e.event <;> cases d.name == e.name <;> cases d.key == e.key <;> cases d.text == e.text <;> cases d.set == e.set <;> cases d.breaks <;> cases e.breaks <;> simp [h1, h2, h3, h4]
end Go.Proofs.YtblebjgjomamdaaDoor
