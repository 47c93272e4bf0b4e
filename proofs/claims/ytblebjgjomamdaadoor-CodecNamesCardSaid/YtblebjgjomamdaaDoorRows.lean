/-
  NARROWER THAN 'FOR EVERY INPUT', by the rows' own cells (each row's printed sentence says how): CodecNames: laid · CodecBytes: laid.
  DERIVED. THE GIVEN ROWS OF THIS SEAT. 2 by the template 'for every input the law returns true; each argument reads behind the call as it read before'; 0 by the template 'total and deterministic' (their statements: YtblebjgjomamdaaDoorTotals.lean).
  GIVEN WITH THE SEED: the statements are not yours to turn. If you find one false, say at which input.
  Laid BY PROGRAM, IN A SANDBOX (cutbox-rows.mjs): the forced cells as the released guide's own fill.sh prints them over the translation 1334f69f5fb039a8… (all of the seat's roots in one cut). By AI agents, Wed Nov 11 2026. No macro, syntax, notation, axiom, sorry.
-/
import Derived.Test.YtblebjgjomamdaaDoorChecked
import GoSem.Claim
import GoSem.ClaimJoined
import GoSem.ClaimMapViews
import Derived.JoinedTies
import Derived.KernelRfl
namespace Go.Proofs.YtblebjgjomamdaaDoor
/- THE CELL 'sum', in the pinned program and in every row, IS THE sha256 OF THE DUMP (.gsa) THAT YtblebjgjomamdaaDoorProg.lean LOADS. Nothing in Lean hashes anything: it is a label: what it is worth is what the hold of that sum in a sandbox is worth. -/
noncomputable def Tryd.pinned : Pinned := { name := "ytblebjgjomamdaadoor", sum := "1334f69f5fb039a813e362577df97fb3cd8bd6c66fdec2d6933821e74c377759", checked := Tryd.checked }
namespace Rows
def none {H : Type} : Left H := { results := [], args := [] }

/- WHAT THE LISTED PACKAGE-LEVEL VARIABLES READ AS WHEN THE CALL BEGINS. Each datum BY PROGRAM (the guide's laid-datum.mjs) off the statement by which the dump's own 'gosem.cut.vars' lays the variable. In a bare row this is a premise. The card (YtblebjgjomamdaaDoorCards.lean) ties it to the program's text. -/
def laid_callboard_model_reserved {H : Type} : DataW H := .agg [.lit (.string [121, 101, 115]), .lit (.string [110, 111]), .lit (.string [108, 101, 110])]
def laid_callboard_model_events {H : Type} : DataW H := .agg [.nil, .slice [.lit (.int .u8 0), .lit (.int .u8 1), .lit (.int .u8 2), .lit (.int .u8 3), .lit (.int .u8 4), .lit (.int .u8 5)] [], .slice [.lit (.int .u8 0), .lit (.int .u8 1), .lit (.int .u8 4), .lit (.int .u8 5), .lit (.int .u8 7)] [], .slice [.lit (.int .u8 0)] [], .slice [.lit (.int .u8 0)] [], .slice [.lit (.int .u8 0), .lit (.int .u8 1), .lit (.int .u8 5), .lit (.int .u8 6)] [], .slice [.lit (.int .u8 1), .lit (.int .u8 2), .lit (.int .u8 3), .lit (.int .u8 6)] [], .slice [.lit (.int .u8 0)] [], .slice [.lit (.int .u8 0)] [], .slice [.lit (.int .u8 0)] [], .slice [.lit (.int .u8 0)] [], .slice [.lit (.int .u8 0)] [], .slice [.lit (.int .u8 0)] [], .slice [.lit (.int .u8 0)] [], .slice [.lit (.int .u8 0)] [], .slice [.lit (.int .u8 1), .lit (.int .u8 2), .lit (.int .u8 3), .lit (.int .u8 4), .lit (.int .u8 5)] []]

/-- 'callboardlaw15.CodecNames': WHATEVER THE INPUT: true; the input reads as it did. -/
def codecNamesSpec : ChangeSpec := { name := "codecNames", fn := fun _ => fun
  | [] => { results := [.lit (.bool true)], args := [] }
  | _ => none }
def codecNamesRow : OpenClaim := { program := "ytblebjgjomamdaadoor", sum := "1334f69f5fb039a813e362577df97fb3cd8bd6c66fdec2d6933821e74c377759", func := "callboard/callboardlaw15.CodecNames", spec := "codecNames", unfollowed := true, recurses := true, named := ["callboard/model.reserved", "callboard/model.events"], apart := false, laid := [("callboard/model.reserved", laid_callboard_model_reserved), ("callboard/model.events", laid_callboard_model_events)] }
def CodecNamesSaid : Prop := codecNamesRow.holds Tryd.pinned (OpenSpec.ofChange codecNamesSpec)

/-- ITS FALSE NEIGHBOUR: 'it returns false'. Refute it at one input. -/
def codecNamesWrong : ChangeSpec := { name := "codecNames", fn := fun _ => fun
  | [] => { results := [.lit (.bool false)], args := [] }
  | _ => none }
def CodecNamesWrongFalsely : Prop := codecNamesRow.holds Tryd.pinned (OpenSpec.ofChange codecNamesWrong)

/-- 'callboardlaw15.CodecBytes': WHATEVER THE INPUT: true; the input reads as it did. -/
def codecBytesSpec : ChangeSpec := { name := "codecBytes", fn := fun _ => fun
  | [d1, d2, d3, d4] => { results := [.lit (.bool true)], args := [d1, d2, d3, d4] }
  | _ => none }
def codecBytesRow : OpenClaim := { program := "ytblebjgjomamdaadoor", sum := "1334f69f5fb039a813e362577df97fb3cd8bd6c66fdec2d6933821e74c377759", func := "callboard/callboardlaw15.CodecBytes", spec := "codecBytes", unfollowed := true, recurses := true, named := ["callboard/model.reserved", "callboard/model.events"], apart := false, laid := [("callboard/model.reserved", laid_callboard_model_reserved), ("callboard/model.events", laid_callboard_model_events)] }
def CodecBytesSaid : Prop := codecBytesRow.holds Tryd.pinned (OpenSpec.ofChange codecBytesSpec)

/-- ITS FALSE NEIGHBOUR: 'it returns false'. Refute it at one input. -/
def codecBytesWrong : ChangeSpec := { name := "codecBytes", fn := fun _ => fun
  | [d1, d2, d3, d4] => { results := [.lit (.bool false)], args := [d1, d2, d3, d4] }
  | _ => none }
def CodecBytesWrongFalsely : Prop := codecBytesRow.holds Tryd.pinned (OpenSpec.ofChange codecBytesWrong)

/- THE SECOND FORM. 'bulk': how many values and letters a reading holds, each counted each time it is reached (what is shared counts as often as it is met; a slice's spare places count too). A statement '..UptoSaid' is the law's where the arguments, and the package variables that the reading takes, are together of bulk at most 1048576: NARROWER than '..Said'. Prove '..Said' where nothing that the law and all that it calls make is longer than what came in: it says more and counts as full. Else prove '..UptoSaid'. A law counts once. -/
mutual
def uptoBulk {H : Type} : DataW H → Nat
  | .lit (.string bytes) => bytes.length + 1
  | .lit _ => 1
  | .nil => 1
  | .ptr d => uptoBulk d + 1
  | .slice elems spare => uptoBulkAll elems + uptoBulkAll spare + 1
  | .agg parts => uptoBulkAll parts + 1
  | .iface _ d => uptoBulk d + 1
  | .map entries => uptoBulkEntries entries + 1
  | .held _ => 1
def uptoBulkAll {H : Type} : List (DataW H) → Nat
  | [] => 0
  | d :: r => uptoBulk d + uptoBulkAll r
def uptoBulkEntries {H : Type} : List (Lit × DataW H) → Nat
  | [] => 0
  | x :: r => uptoBulkEntry x + uptoBulkEntries r
def uptoBulkEntry {H : Type} : Lit × DataW H → Nat
  | (.string bytes, d) => bytes.length + uptoBulk d + 1
  | (_, d) => uptoBulk d + 1
 end
def uptoSmall : (H : Type) → List (DataW H) → Bool := fun _ ds => decide (uptoBulkAll ds ≤ 1048576)
def OpenSpec.upto (s : _root_.Go.ChangeSpec) : _root_.Go.OpenSpec := { _root_.Go.OpenSpec.ofChange s with cond := some uptoSmall }

/-- 'callboardlaw15.CodecNames', WHERE WHAT IT READS IS OF BULK AT MOST 1048576: true; the input reads as it did. -/
def codecNamesUptoRow : OpenClaim := { program := "ytblebjgjomamdaadoor", sum := "1334f69f5fb039a813e362577df97fb3cd8bd6c66fdec2d6933821e74c377759", func := "callboard/callboardlaw15.CodecNames", spec := "codecNames", unfollowed := true, recurses := true, named := ["callboard/model.reserved", "callboard/model.events"], apart := false, laid := [("callboard/model.reserved", laid_callboard_model_reserved), ("callboard/model.events", laid_callboard_model_events)], narrowed := true }
def CodecNamesUptoSaid : Prop := codecNamesUptoRow.holds Tryd.pinned (OpenSpec.upto codecNamesSpec)

/-- 'callboardlaw15.CodecBytes', WHERE WHAT IT READS IS OF BULK AT MOST 1048576: true; the input reads as it did. -/
def codecBytesUptoRow : OpenClaim := { program := "ytblebjgjomamdaadoor", sum := "1334f69f5fb039a813e362577df97fb3cd8bd6c66fdec2d6933821e74c377759", func := "callboard/callboardlaw15.CodecBytes", spec := "codecBytes", unfollowed := true, recurses := true, named := ["callboard/model.reserved", "callboard/model.events"], apart := false, laid := [("callboard/model.reserved", laid_callboard_model_reserved), ("callboard/model.events", laid_callboard_model_events)], narrowed := true }
def CodecBytesUptoSaid : Prop := codecBytesUptoRow.holds Tryd.pinned (OpenSpec.upto codecBytesSpec)

end Rows
end Go.Proofs.YtblebjgjomamdaaDoor
