/- What sameNode's closure and bare return. Conditions: none. -/
import Derived.Test.YtblebjgjomamdaaDoorMEqual
namespace Go.Proofs.YtblebjgjomamdaaDoor
open Go.RowKit Go.Ow

/-- a node's plain fields -/
structure Nd where
  name : ByteArray
  kind : Nat
  inn : Int
  on : Int
  event : Nat
  key : ByteArray
  text : ByteArray
  set : ByteArray
  breaks : Bool
abbrev nodeC (d : Nd) (vs bs : Value) : Array Value := #[.string d.name, .int .u8 d.kind, .int .i64 d.inn, .int .i64 d.on, .int .u8 d.event, .string d.key, .string d.text, .string d.set, .bool d.breaks, vs, bs]
abbrev oneC (d : Nd) : Array Value := #[.iface 9 (.string d.name), .iface 5 (.int .u8 d.kind), .iface 3 (.int .i64 d.inn), .iface 3 (.int .i64 d.on), .iface 5 (.int .u8 d.event), .iface 9 (.string d.key), .iface 9 (.string d.text), .iface 9 (.string d.set), .iface 4 (.bool d.breaks)]

set_option maxRecDepth 100000 in
set_option maxHeartbeats 4000000 in
theorem one_any (d : Nd) (o1 o2 : Option Addr) (m1 c1 m2 c2 : Nat) (w : World) :
    Calls Tryd.prog 94 #[.agg (nodeC d (.slice o1 m1 c1) (.slice o2 m2 c2))] w fun e w' => e = .returned (.agg (oneC d)) ∧ Below w.heap.size w w' := by
  obtain ⟨n, k, i, o, ev, ke, te, se, br⟩ := d
  go_enter Tryd.func94, Tryd.ntmps94
  go_wp2
  exact bodyPost_ret (v := .agg (oneC ⟨n, k, i, o, ev, ke, te, se, br⟩)) (by simp [results, Tryd.results94, go_sem]) rfl ⟨rfl, ((Below.refl _ _).alloc (Nat.le_refl _) _).alloc (by simp) _⟩
set_option maxRecDepth 100000 in
set_option maxHeartbeats 4000000 in
theorem bare_any (d : Nd) (o1 o2 : Option Addr) (m1 c1 m2 c2 : Nat) (w : World) :
    Calls Tryd.prog 57 #[.agg (nodeC d (.slice o1 m1 c1) (.slice o2 m2 c2))] w fun e w' => e = .returned (.agg (nodeC { d with name := ⟨#[]⟩, kind := 0, inn := 0, event := 0 } (.slice o1 m1 c1) (.slice o2 m2 c2))) ∧ Below w.heap.size w w' := by
  obtain ⟨n, k, i, o, ev, ke, te, se, br⟩ := d
  go_enter Tryd.func57, Tryd.ntmps57
  go_wp2
  exact bodyPost_ret (v := .agg (nodeC ⟨⟨#[]⟩, 0, 0, o, 0, ke, te, se, br⟩ (.slice o1 m1 c1) (.slice o2 m2 c2))) (by simp [results, Tryd.results57, go_sem]) rfl ⟨rfl, ((Below.refl _ _).alloc (Nat.le_refl _) _).alloc (by simp) _⟩
end Go.Proofs.YtblebjgjomamdaaDoor
