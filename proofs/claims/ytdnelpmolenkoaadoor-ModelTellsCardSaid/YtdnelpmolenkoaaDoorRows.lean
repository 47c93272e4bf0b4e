/-
  NARROWER THAN 'FOR EVERY INPUT', by the rows' own cells (each row's printed sentence says how): ModelTable: laid · ModelShort: laid · ModelNames: laid · ModelEach: laid · ModelAlike: laid · ModelTells: laid.
  DERIVED. THE GIVEN ROWS OF THIS SEAT. 6 by the template 'for every input the law returns true; each argument reads behind the call as it read before'; 0 by the template 'total and deterministic' (their statements: YtdnelpmolenkoaaDoorTotals.lean).
  GIVEN WITH THE SEED: the statements are not yours to turn. If you find one false, say at which input.
  Laid BY PROGRAM, IN A SANDBOX (cutbox-rows.mjs): the forced cells as the released guide's own fill.sh prints them over the translation 2b4b49849ffa245b… (all of the seat's roots in one cut). By AI agents, Wed Nov 11 2026. No macro, syntax, notation, axiom, sorry.
-/
import Derived.Test.YtdnelpmolenkoaaDoorChecked
import GoSem.Claim
import GoSem.ClaimJoined
import GoSem.ClaimMapViews
import Derived.JoinedTies
import Derived.KernelRfl
namespace Go.Proofs.YtdnelpmolenkoaaDoor
/- THE CELL 'sum', in the pinned program and in every row, IS THE sha256 OF THE DUMP (.gsa) THAT YtdnelpmolenkoaaDoorProg.lean LOADS. Nothing in Lean hashes anything: it is a label: what it is worth is what the hold of that sum in a sandbox is worth. -/
noncomputable def Tryd.pinned : Pinned := { name := "ytdnelpmolenkoaadoor", sum := "2b4b49849ffa245b8b26cd662bf98bff445488e0937e0028a9680425bbf0292c", checked := Tryd.checked }
namespace Rows
def none {H : Type} : Left H := { results := [], args := [] }

/- WHAT THE LISTED PACKAGE-LEVEL VARIABLES READ AS WHEN THE CALL BEGINS. Each datum BY PROGRAM (the guide's laid-datum.mjs) off the statement by which the dump's own 'gosem.cut.vars' lays the variable. In a bare row this is a premise. The card (YtdnelpmolenkoaaDoorCards.lean) ties it to the program's text. -/
def laid_callboard_model_reserved {H : Type} : DataW H := .agg [.lit (.string [121, 101, 115]), .lit (.string [110, 111]), .lit (.string [108, 101, 110])]
def laid_callboard_model_events {H : Type} : DataW H := .agg [.nil, .slice [.lit (.int .u8 0), .lit (.int .u8 1), .lit (.int .u8 2), .lit (.int .u8 3), .lit (.int .u8 4), .lit (.int .u8 5)] [], .slice [.lit (.int .u8 0), .lit (.int .u8 1), .lit (.int .u8 4), .lit (.int .u8 5), .lit (.int .u8 7)] [], .slice [.lit (.int .u8 0)] [], .slice [.lit (.int .u8 0)] [], .slice [.lit (.int .u8 0), .lit (.int .u8 1), .lit (.int .u8 5), .lit (.int .u8 6)] [], .slice [.lit (.int .u8 1), .lit (.int .u8 2), .lit (.int .u8 3), .lit (.int .u8 6)] [], .slice [.lit (.int .u8 0)] [], .slice [.lit (.int .u8 0)] [], .slice [.lit (.int .u8 0)] [], .slice [.lit (.int .u8 0)] [], .slice [.lit (.int .u8 0)] [], .slice [.lit (.int .u8 0)] [], .slice [.lit (.int .u8 0)] [], .slice [.lit (.int .u8 0)] [], .slice [.lit (.int .u8 1), .lit (.int .u8 2), .lit (.int .u8 3), .lit (.int .u8 4), .lit (.int .u8 5)] []]

/-- 'callboardlaw14.ModelTable': WHATEVER THE INPUT: true; the input reads as it did. -/
def modelTableSpec : ChangeSpec := { name := "modelTable", fn := fun _ => fun
  | [d1, d2, d3] => { results := [.lit (.bool true)], args := [d1, d2, d3] }
  | _ => none }
def modelTableRow : OpenClaim := { program := "ytdnelpmolenkoaadoor", sum := "2b4b49849ffa245b8b26cd662bf98bff445488e0937e0028a9680425bbf0292c", func := "callboard/callboardlaw14.ModelTable", spec := "modelTable", unfollowed := true, recurses := true, named := ["callboard/model.reserved", "callboard/model.events"], apart := false, laid := [("callboard/model.reserved", laid_callboard_model_reserved), ("callboard/model.events", laid_callboard_model_events)] }
def ModelTableSaid : Prop := modelTableRow.holds Tryd.pinned (OpenSpec.ofChange modelTableSpec)

/-- ITS FALSE NEIGHBOUR: 'it returns false'. Refute it at one input. -/
def modelTableWrong : ChangeSpec := { name := "modelTable", fn := fun _ => fun
  | [d1, d2, d3] => { results := [.lit (.bool false)], args := [d1, d2, d3] }
  | _ => none }
def ModelTableWrongFalsely : Prop := modelTableRow.holds Tryd.pinned (OpenSpec.ofChange modelTableWrong)

/-- 'callboardlaw14.ModelShort': WHATEVER THE INPUT: true; the input reads as it did. -/
def modelShortSpec : ChangeSpec := { name := "modelShort", fn := fun _ => fun
  | [d1, d2, d3] => { results := [.lit (.bool true)], args := [d1, d2, d3] }
  | _ => none }
def modelShortRow : OpenClaim := { program := "ytdnelpmolenkoaadoor", sum := "2b4b49849ffa245b8b26cd662bf98bff445488e0937e0028a9680425bbf0292c", func := "callboard/callboardlaw14.ModelShort", spec := "modelShort", unfollowed := true, recurses := true, named := ["callboard/model.reserved", "callboard/model.events"], apart := false, laid := [("callboard/model.reserved", laid_callboard_model_reserved), ("callboard/model.events", laid_callboard_model_events)] }
def ModelShortSaid : Prop := modelShortRow.holds Tryd.pinned (OpenSpec.ofChange modelShortSpec)

/-- ITS FALSE NEIGHBOUR: 'it returns false'. Refute it at one input. -/
def modelShortWrong : ChangeSpec := { name := "modelShort", fn := fun _ => fun
  | [d1, d2, d3] => { results := [.lit (.bool false)], args := [d1, d2, d3] }
  | _ => none }
def ModelShortWrongFalsely : Prop := modelShortRow.holds Tryd.pinned (OpenSpec.ofChange modelShortWrong)

/-- 'callboardlaw14.ModelNames': WHATEVER THE INPUT: true; the input reads as it did. -/
def modelNamesSpec : ChangeSpec := { name := "modelNames", fn := fun _ => fun
  | [] => { results := [.lit (.bool true)], args := [] }
  | _ => none }
def modelNamesRow : OpenClaim := { program := "ytdnelpmolenkoaadoor", sum := "2b4b49849ffa245b8b26cd662bf98bff445488e0937e0028a9680425bbf0292c", func := "callboard/callboardlaw14.ModelNames", spec := "modelNames", unfollowed := true, recurses := true, named := ["callboard/model.reserved", "callboard/model.events"], apart := false, laid := [("callboard/model.reserved", laid_callboard_model_reserved), ("callboard/model.events", laid_callboard_model_events)] }
def ModelNamesSaid : Prop := modelNamesRow.holds Tryd.pinned (OpenSpec.ofChange modelNamesSpec)

/-- ITS FALSE NEIGHBOUR: 'it returns false'. Refute it at one input. -/
def modelNamesWrong : ChangeSpec := { name := "modelNames", fn := fun _ => fun
  | [] => { results := [.lit (.bool false)], args := [] }
  | _ => none }
def ModelNamesWrongFalsely : Prop := modelNamesRow.holds Tryd.pinned (OpenSpec.ofChange modelNamesWrong)

/-- 'callboardlaw14.ModelEach': WHATEVER THE INPUT: true; the input reads as it did. -/
def modelEachSpec : ChangeSpec := { name := "modelEach", fn := fun _ => fun
  | [d] => { results := [.lit (.bool true)], args := [d] }
  | _ => none }
def modelEachRow : OpenClaim := { program := "ytdnelpmolenkoaadoor", sum := "2b4b49849ffa245b8b26cd662bf98bff445488e0937e0028a9680425bbf0292c", func := "callboard/callboardlaw14.ModelEach", spec := "modelEach", unfollowed := true, recurses := true, named := ["callboard/model.reserved", "callboard/model.events"], apart := false, laid := [("callboard/model.reserved", laid_callboard_model_reserved), ("callboard/model.events", laid_callboard_model_events)] }
def ModelEachSaid : Prop := modelEachRow.holds Tryd.pinned (OpenSpec.ofChange modelEachSpec)

/-- ITS FALSE NEIGHBOUR: 'it returns false'. Refute it at one input. -/
def modelEachWrong : ChangeSpec := { name := "modelEach", fn := fun _ => fun
  | [d] => { results := [.lit (.bool false)], args := [d] }
  | _ => none }
def ModelEachWrongFalsely : Prop := modelEachRow.holds Tryd.pinned (OpenSpec.ofChange modelEachWrong)

/-- 'callboardlaw14.ModelAlike': WHATEVER THE INPUT: true; the input reads as it did. -/
def modelAlikeSpec : ChangeSpec := { name := "modelAlike", fn := fun _ => fun
  | [d1, d2, d3] => { results := [.lit (.bool true)], args := [d1, d2, d3] }
  | _ => none }
def modelAlikeRow : OpenClaim := { program := "ytdnelpmolenkoaadoor", sum := "2b4b49849ffa245b8b26cd662bf98bff445488e0937e0028a9680425bbf0292c", func := "callboard/callboardlaw14.ModelAlike", spec := "modelAlike", unfollowed := true, recurses := true, named := ["callboard/model.reserved", "callboard/model.events"], apart := false, laid := [("callboard/model.reserved", laid_callboard_model_reserved), ("callboard/model.events", laid_callboard_model_events)] }
def ModelAlikeSaid : Prop := modelAlikeRow.holds Tryd.pinned (OpenSpec.ofChange modelAlikeSpec)

/-- ITS FALSE NEIGHBOUR: 'it returns false'. Refute it at one input. -/
def modelAlikeWrong : ChangeSpec := { name := "modelAlike", fn := fun _ => fun
  | [d1, d2, d3] => { results := [.lit (.bool false)], args := [d1, d2, d3] }
  | _ => none }
def ModelAlikeWrongFalsely : Prop := modelAlikeRow.holds Tryd.pinned (OpenSpec.ofChange modelAlikeWrong)

/-- 'callboardlaw14.ModelTells': WHATEVER THE INPUT: true; the input reads as it did. -/
def modelTellsSpec : ChangeSpec := { name := "modelTells", fn := fun _ => fun
  | [d1, d2, d3, d4, d5] => { results := [.lit (.bool true)], args := [d1, d2, d3, d4, d5] }
  | _ => none }
def modelTellsRow : OpenClaim := { program := "ytdnelpmolenkoaadoor", sum := "2b4b49849ffa245b8b26cd662bf98bff445488e0937e0028a9680425bbf0292c", func := "callboard/callboardlaw14.ModelTells", spec := "modelTells", unfollowed := true, recurses := true, named := ["callboard/model.reserved", "callboard/model.events"], apart := false, laid := [("callboard/model.reserved", laid_callboard_model_reserved), ("callboard/model.events", laid_callboard_model_events)] }
def ModelTellsSaid : Prop := modelTellsRow.holds Tryd.pinned (OpenSpec.ofChange modelTellsSpec)

/-- ITS FALSE NEIGHBOUR: 'it returns false'. Refute it at one input. -/
def modelTellsWrong : ChangeSpec := { name := "modelTells", fn := fun _ => fun
  | [d1, d2, d3, d4, d5] => { results := [.lit (.bool false)], args := [d1, d2, d3, d4, d5] }
  | _ => none }
def ModelTellsWrongFalsely : Prop := modelTellsRow.holds Tryd.pinned (OpenSpec.ofChange modelTellsWrong)

/- THE SECOND FORM. 'bulk': how many values and letters a reading holds, each counted each time it is reached (what is shared counts as often as it is met; a slice's spare places count too). A statement '..UptoSaid' is the law's where the arguments, and the package variables that the reading takes, are together of bulk at most 1048576: NARROWER than '..Said'. Prove '..Said' where nothing that the law and all that it calls make is longer than what came in: it says more and counts as full. Else prove '..UptoSaid'. A law counts once. -/
mutual
def uptoBulk {H : Type} : DataW H → Nat
  | .lit (.string bytes) => bytes.length + 1
  | .lit _ => 1
  | .nil => 1
  | .ptr d => uptoBulk d + 1
  | .slice elems spare => uptoBulkAll elems + uptoBulkAll spare + 1
  | .agg parts => uptoBulkAll parts + 1
  | .iface _ d => uptoBulk d + 1
  | .map entries => uptoBulkEntries entries + 1
  | .held _ => 1
def uptoBulkAll {H : Type} : List (DataW H) → Nat
  | [] => 0
  | d :: r => uptoBulk d + uptoBulkAll r
def uptoBulkEntries {H : Type} : List (Lit × DataW H) → Nat
  | [] => 0
  | x :: r => uptoBulkEntry x + uptoBulkEntries r
def uptoBulkEntry {H : Type} : Lit × DataW H → Nat
  | (.string bytes, d) => bytes.length + uptoBulk d + 1
  | (_, d) => uptoBulk d + 1
 end
def uptoSmall : (H : Type) → List (DataW H) → Bool := fun _ ds => decide (uptoBulkAll ds ≤ 1048576)
def OpenSpec.upto (s : _root_.Go.ChangeSpec) : _root_.Go.OpenSpec := { _root_.Go.OpenSpec.ofChange s with cond := some uptoSmall }

/-- 'callboardlaw14.ModelTable', WHERE WHAT IT READS IS OF BULK AT MOST 1048576: true; the input reads as it did. -/
def modelTableUptoRow : OpenClaim := { program := "ytdnelpmolenkoaadoor", sum := "2b4b49849ffa245b8b26cd662bf98bff445488e0937e0028a9680425bbf0292c", func := "callboard/callboardlaw14.ModelTable", spec := "modelTable", unfollowed := true, recurses := true, named := ["callboard/model.reserved", "callboard/model.events"], apart := false, laid := [("callboard/model.reserved", laid_callboard_model_reserved), ("callboard/model.events", laid_callboard_model_events)], narrowed := true }
def ModelTableUptoSaid : Prop := modelTableUptoRow.holds Tryd.pinned (OpenSpec.upto modelTableSpec)

/-- 'callboardlaw14.ModelShort', WHERE WHAT IT READS IS OF BULK AT MOST 1048576: true; the input reads as it did. -/
def modelShortUptoRow : OpenClaim := { program := "ytdnelpmolenkoaadoor", sum := "2b4b49849ffa245b8b26cd662bf98bff445488e0937e0028a9680425bbf0292c", func := "callboard/callboardlaw14.ModelShort", spec := "modelShort", unfollowed := true, recurses := true, named := ["callboard/model.reserved", "callboard/model.events"], apart := false, laid := [("callboard/model.reserved", laid_callboard_model_reserved), ("callboard/model.events", laid_callboard_model_events)], narrowed := true }
def ModelShortUptoSaid : Prop := modelShortUptoRow.holds Tryd.pinned (OpenSpec.upto modelShortSpec)

/-- 'callboardlaw14.ModelNames', WHERE WHAT IT READS IS OF BULK AT MOST 1048576: true; the input reads as it did. -/
def modelNamesUptoRow : OpenClaim := { program := "ytdnelpmolenkoaadoor", sum := "2b4b49849ffa245b8b26cd662bf98bff445488e0937e0028a9680425bbf0292c", func := "callboard/callboardlaw14.ModelNames", spec := "modelNames", unfollowed := true, recurses := true, named := ["callboard/model.reserved", "callboard/model.events"], apart := false, laid := [("callboard/model.reserved", laid_callboard_model_reserved), ("callboard/model.events", laid_callboard_model_events)], narrowed := true }
def ModelNamesUptoSaid : Prop := modelNamesUptoRow.holds Tryd.pinned (OpenSpec.upto modelNamesSpec)

/-- 'callboardlaw14.ModelEach', WHERE WHAT IT READS IS OF BULK AT MOST 1048576: true; the input reads as it did. -/
def modelEachUptoRow : OpenClaim := { program := "ytdnelpmolenkoaadoor", sum := "2b4b49849ffa245b8b26cd662bf98bff445488e0937e0028a9680425bbf0292c", func := "callboard/callboardlaw14.ModelEach", spec := "modelEach", unfollowed := true, recurses := true, named := ["callboard/model.reserved", "callboard/model.events"], apart := false, laid := [("callboard/model.reserved", laid_callboard_model_reserved), ("callboard/model.events", laid_callboard_model_events)], narrowed := true }
def ModelEachUptoSaid : Prop := modelEachUptoRow.holds Tryd.pinned (OpenSpec.upto modelEachSpec)

/-- 'callboardlaw14.ModelAlike', WHERE WHAT IT READS IS OF BULK AT MOST 1048576: true; the input reads as it did. -/
def modelAlikeUptoRow : OpenClaim := { program := "ytdnelpmolenkoaadoor", sum := "2b4b49849ffa245b8b26cd662bf98bff445488e0937e0028a9680425bbf0292c", func := "callboard/callboardlaw14.ModelAlike", spec := "modelAlike", unfollowed := true, recurses := true, named := ["callboard/model.reserved", "callboard/model.events"], apart := false, laid := [("callboard/model.reserved", laid_callboard_model_reserved), ("callboard/model.events", laid_callboard_model_events)], narrowed := true }
def ModelAlikeUptoSaid : Prop := modelAlikeUptoRow.holds Tryd.pinned (OpenSpec.upto modelAlikeSpec)

/-- 'callboardlaw14.ModelTells', WHERE WHAT IT READS IS OF BULK AT MOST 1048576: true; the input reads as it did. -/
def modelTellsUptoRow : OpenClaim := { program := "ytdnelpmolenkoaadoor", sum := "2b4b49849ffa245b8b26cd662bf98bff445488e0937e0028a9680425bbf0292c", func := "callboard/callboardlaw14.ModelTells", spec := "modelTells", unfollowed := true, recurses := true, named := ["callboard/model.reserved", "callboard/model.events"], apart := false, laid := [("callboard/model.reserved", laid_callboard_model_reserved), ("callboard/model.events", laid_callboard_model_events)], narrowed := true }
def ModelTellsUptoSaid : Prop := modelTellsUptoRow.holds Tryd.pinned (OpenSpec.upto modelTellsSpec)

end Rows
end Go.Proofs.YtdnelpmolenkoaaDoor
