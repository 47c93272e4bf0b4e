/-
  NARROWER THAN 'FOR EVERY INPUT', by the rows' own cells (each row's printed sentence says how): SaveChanged: laid · SaveNames: laid.
  DERIVED. THE GIVEN ROWS OF THIS SEAT. 2 by the template 'for every input the law returns true; each argument reads behind the call as it read before'; 0 by the template 'total and deterministic' (their statements: YtjakdbahopbggaaGreatDoorTotals.lean).
  GIVEN WITH THE SEED: the statements are not yours to turn. If you find one false, say at which input.
  Laid BY PROGRAM, IN A SANDBOX (cutbox-rows.mjs): the forced cells as the released guide's own fill.sh prints them over the translation 55d5fb1d1c3b9be7… (all of the seat's roots in one cut). By AI agents, Wed Nov 11 2026. No macro, syntax, notation, axiom, sorry.
-/
import Derived.Test.YtjakdbahopbggaaGreatDoorChecked
import GoSem.Claim
import GoSem.ClaimJoined
import GoSem.ClaimMapViews
import Derived.JoinedTies
import Derived.KernelRfl
namespace Go.Proofs.YtjakdbahopbggaaGreatDoor
/- THE CELL 'sum', in the pinned program and in every row, IS THE sha256 OF THE DUMP (.gsa) THAT YtjakdbahopbggaaGreatDoorProg.lean LOADS. Nothing in Lean hashes anything: it is a label: what it is worth is what the hold of that sum in a sandbox is worth. -/
noncomputable def Tryz.pinned : Pinned := { name := "ytjakdbahopbggaagreatdoor", sum := "55d5fb1d1c3b9be78d951fe9c0821c9fb612a099f1736a062f1bf7d6fc655aa0", checked := Tryz.checked }
namespace Rows
def none {H : Type} : Left H := { results := [], args := [] }

/- WHAT THE LISTED PACKAGE-LEVEL VARIABLES READ AS WHEN THE CALL BEGINS. Each datum BY PROGRAM (the guide's laid-datum.mjs) off the statement by which the dump's own 'gosem.cut.vars' lays the variable. In a bare row this is a premise. The card (YtjakdbahopbggaaGreatDoorCards.lean) ties it to the program's text. -/
def laid_callboard_model_reserved {H : Type} : DataW H := .agg [.lit (.string [121, 101, 115]), .lit (.string [110, 111]), .lit (.string [108, 101, 110])]
def laid_callboard_model_events {H : Type} : DataW H := .agg [.nil, .slice [.lit (.int .u8 0), .lit (.int .u8 1), .lit (.int .u8 2), .lit (.int .u8 3), .lit (.int .u8 4), .lit (.int .u8 5)] [], .slice [.lit (.int .u8 0), .lit (.int .u8 1), .lit (.int .u8 4), .lit (.int .u8 5), .lit (.int .u8 7)] [], .slice [.lit (.int .u8 0)] [], .slice [.lit (.int .u8 0)] [], .slice [.lit (.int .u8 0), .lit (.int .u8 1), .lit (.int .u8 5), .lit (.int .u8 6)] [], .slice [.lit (.int .u8 1), .lit (.int .u8 2), .lit (.int .u8 3), .lit (.int .u8 6)] [], .slice [.lit (.int .u8 0)] [], .slice [.lit (.int .u8 0)] [], .slice [.lit (.int .u8 0)] [], .slice [.lit (.int .u8 0)] [], .slice [.lit (.int .u8 0)] [], .slice [.lit (.int .u8 0)] [], .slice [.lit (.int .u8 0)] [], .slice [.lit (.int .u8 0)] [], .slice [.lit (.int .u8 1), .lit (.int .u8 2), .lit (.int .u8 3), .lit (.int .u8 4), .lit (.int .u8 5)] []]

/-- 'callboardlaw30.SaveChanged': WHATEVER THE INPUT: true; the input reads as it did. -/
def saveChangedSpec : ChangeSpec := { name := "saveChanged", fn := fun _ => fun
  | [d1, d2] => { results := [.lit (.bool true)], args := [d1, d2] }
  | _ => none }
def saveChangedRow : OpenClaim := { program := "ytjakdbahopbggaagreatdoor", sum := "55d5fb1d1c3b9be78d951fe9c0821c9fb612a099f1736a062f1bf7d6fc655aa0", func := "callboard/callboardlaw30.SaveChanged", spec := "saveChanged", inPlace := ["internal/bytealg.abigen_runtime_cmpstring", "slices.overlaps[callboard/leaf.Entry]"], unfollowed := true, recurses := true, named := ["callboard/model.reserved", "callboard/model.events"], apart := false, laid := [("callboard/model.reserved", laid_callboard_model_reserved), ("callboard/model.events", laid_callboard_model_events)] }
def SaveChangedSaid : Prop := saveChangedRow.holds Tryz.pinned (OpenSpec.ofChange saveChangedSpec)

/-- ITS FALSE NEIGHBOUR: 'it returns false'. Refute it at one input. -/
def saveChangedWrong : ChangeSpec := { name := "saveChanged", fn := fun _ => fun
  | [d1, d2] => { results := [.lit (.bool false)], args := [d1, d2] }
  | _ => none }
def SaveChangedWrongFalsely : Prop := saveChangedRow.holds Tryz.pinned (OpenSpec.ofChange saveChangedWrong)

/-- 'callboardlaw30.SaveNames': WHATEVER THE INPUT: true; the input reads as it did. -/
def saveNamesSpec : ChangeSpec := { name := "saveNames", fn := fun _ => fun
  | [] => { results := [.lit (.bool true)], args := [] }
  | _ => none }
def saveNamesRow : OpenClaim := { program := "ytjakdbahopbggaagreatdoor", sum := "55d5fb1d1c3b9be78d951fe9c0821c9fb612a099f1736a062f1bf7d6fc655aa0", func := "callboard/callboardlaw30.SaveNames", spec := "saveNames", inPlace := ["internal/bytealg.abigen_runtime_cmpstring"], unfollowed := true, recurses := true, named := ["callboard/model.reserved", "callboard/model.events"], apart := false, laid := [("callboard/model.reserved", laid_callboard_model_reserved), ("callboard/model.events", laid_callboard_model_events)] }
def SaveNamesSaid : Prop := saveNamesRow.holds Tryz.pinned (OpenSpec.ofChange saveNamesSpec)

/-- ITS FALSE NEIGHBOUR: 'it returns false'. Refute it at one input. -/
def saveNamesWrong : ChangeSpec := { name := "saveNames", fn := fun _ => fun
  | [] => { results := [.lit (.bool false)], args := [] }
  | _ => none }
def SaveNamesWrongFalsely : Prop := saveNamesRow.holds Tryz.pinned (OpenSpec.ofChange saveNamesWrong)

/- THE SECOND FORM. 'bulk': how many values and letters a reading holds, each counted each time it is reached (what is shared counts as often as it is met; a slice's spare places count too). A statement '..UptoSaid' is the law's where the arguments, and the package variables that the reading takes, are together of bulk at most 1048576: NARROWER than '..Said'. Prove '..Said' where nothing that the law and all that it calls make is longer than what came in: it says more and counts as full. Else prove '..UptoSaid'. A law counts once. -/
mutual
def uptoBulk {H : Type} : DataW H → Nat
  | .lit (.string bytes) => bytes.length + 1
  | .lit _ => 1
  | .nil => 1
  | .ptr d => uptoBulk d + 1
  | .slice elems spare => uptoBulkAll elems + uptoBulkAll spare + 1
  | .agg parts => uptoBulkAll parts + 1
  | .iface _ d => uptoBulk d + 1
  | .map entries => uptoBulkEntries entries + 1
  | .held _ => 1
def uptoBulkAll {H : Type} : List (DataW H) → Nat
  | [] => 0
  | d :: r => uptoBulk d + uptoBulkAll r
def uptoBulkEntries {H : Type} : List (Lit × DataW H) → Nat
  | [] => 0
  | x :: r => uptoBulkEntry x + uptoBulkEntries r
def uptoBulkEntry {H : Type} : Lit × DataW H → Nat
  | (.string bytes, d) => bytes.length + uptoBulk d + 1
  | (_, d) => uptoBulk d + 1
 end
def uptoSmall : (H : Type) → List (DataW H) → Bool := fun _ ds => decide (uptoBulkAll ds ≤ 1048576)
def OpenSpec.upto (s : _root_.Go.ChangeSpec) : _root_.Go.OpenSpec := { _root_.Go.OpenSpec.ofChange s with cond := some uptoSmall }

/-- 'callboardlaw30.SaveChanged', WHERE WHAT IT READS IS OF BULK AT MOST 1048576: true; the input reads as it did. -/
def saveChangedUptoRow : OpenClaim := { program := "ytjakdbahopbggaagreatdoor", sum := "55d5fb1d1c3b9be78d951fe9c0821c9fb612a099f1736a062f1bf7d6fc655aa0", func := "callboard/callboardlaw30.SaveChanged", spec := "saveChanged", inPlace := ["internal/bytealg.abigen_runtime_cmpstring", "slices.overlaps[callboard/leaf.Entry]"], unfollowed := true, recurses := true, named := ["callboard/model.reserved", "callboard/model.events"], apart := false, laid := [("callboard/model.reserved", laid_callboard_model_reserved), ("callboard/model.events", laid_callboard_model_events)], narrowed := true }
def SaveChangedUptoSaid : Prop := saveChangedUptoRow.holds Tryz.pinned (OpenSpec.upto saveChangedSpec)

/-- 'callboardlaw30.SaveNames', WHERE WHAT IT READS IS OF BULK AT MOST 1048576: true; the input reads as it did. -/
def saveNamesUptoRow : OpenClaim := { program := "ytjakdbahopbggaagreatdoor", sum := "55d5fb1d1c3b9be78d951fe9c0821c9fb612a099f1736a062f1bf7d6fc655aa0", func := "callboard/callboardlaw30.SaveNames", spec := "saveNames", inPlace := ["internal/bytealg.abigen_runtime_cmpstring"], unfollowed := true, recurses := true, named := ["callboard/model.reserved", "callboard/model.events"], apart := false, laid := [("callboard/model.reserved", laid_callboard_model_reserved), ("callboard/model.events", laid_callboard_model_events)], narrowed := true }
def SaveNamesUptoSaid : Prop := saveNamesUptoRow.holds Tryz.pinned (OpenSpec.upto saveNamesSpec)

end Rows
end Go.Proofs.YtjakdbahopbggaaGreatDoor
