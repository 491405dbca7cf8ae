/-
  NARROWER THAN 'FOR EVERY INPUT', by the rows' own cells (each row's printed sentence says how): FlowsStay: laid · FlowsActs: laid.
  DERIVED. THE GIVEN ROWS OF THIS SEAT. 2 by the template 'for every input the law returns true; each argument reads behind the call as it read before'; 0 by the template 'total and deterministic' (their statements: YtlgnhifjakkodaaDoorTotals.lean).
  GIVEN WITH THE SEED: the statements are not yours to turn. If you find one false, say at which input.
  Laid BY PROGRAM, IN A SANDBOX (cutbox-rows.mjs): the forced cells as the released guide's own fill.sh prints them over the translation 2a5bc24c616abaf2… (all of the seat's roots in one cut). By AI agents, Wed Nov 11 2026. No macro, syntax, notation, axiom, sorry.
-/
import Derived.Test.YtlgnhifjakkodaaDoorChecked
import GoSem.Claim
import GoSem.ClaimJoined
import GoSem.ClaimMapViews
import Derived.JoinedTies
import Derived.KernelRfl
namespace Go.Proofs.YtlgnhifjakkodaaDoor
/- THE CELL 'sum', in the pinned program and in every row, IS THE sha256 OF THE DUMP (.gsa) THAT YtlgnhifjakkodaaDoorProg.lean LOADS. Nothing in Lean hashes anything: it is a label: what it is worth is what the hold of that sum in a sandbox is worth. -/
noncomputable def Tryd.pinned : Pinned := { name := "ytlgnhifjakkodaadoor", sum := "2a5bc24c616abaf2e1855a3cfc695bdc4cad933d279e529f13fd4cc6fef81783", checked := Tryd.checked }
namespace Rows
def none {H : Type} : Left H := { results := [], args := [] }

/- WHAT THE LISTED PACKAGE-LEVEL VARIABLES READ AS WHEN THE CALL BEGINS. Each datum BY PROGRAM (the guide's laid-datum.mjs) off the statement by which the dump's own 'gosem.cut.vars' lays the variable. In a bare row this is a premise. The card (YtlgnhifjakkodaaDoorCards.lean) ties it to the program's text. -/
def laid_levelhand_api_ErrBound {H : Type} : DataW H := .iface "*errors.errorString" (.ptr (.agg [.lit (.string [108, 101, 118, 101, 108, 104, 97, 110, 100, 58, 32, 98, 111, 117, 110, 100])]))
def laid_levelhand_api_ErrName {H : Type} : DataW H := .iface "*errors.errorString" (.ptr (.agg [.lit (.string [108, 101, 118, 101, 108, 104, 97, 110, 100, 58, 32, 110, 97, 109, 101])]))
def laid_levelhand_api_ErrOld {H : Type} : DataW H := .iface "*errors.errorString" (.ptr (.agg [.lit (.string [108, 101, 118, 101, 108, 104, 97, 110, 100, 58, 32, 111, 108, 100])]))
def laid_errors_errorType {H : Type} : DataW H := .iface "internal/reflectlite.rtype" (.agg [.ptr (.lit (.string [101, 114, 114, 111, 114]))])
def laid_levelhand_api_ErrText {H : Type} : DataW H := .iface "*errors.errorString" (.ptr (.agg [.lit (.string [108, 101, 118, 101, 108, 104, 97, 110, 100, 58, 32, 116, 101, 120, 116])]))
def laid_levelhand_api_ErrShape {H : Type} : DataW H := .iface "*errors.errorString" (.ptr (.agg [.lit (.string [108, 101, 118, 101, 108, 104, 97, 110, 100, 58, 32, 115, 104, 97, 112, 101])]))
def laid_levelhand_api_ErrNone {H : Type} : DataW H := .iface "*errors.errorString" (.ptr (.agg [.lit (.string [108, 101, 118, 101, 108, 104, 97, 110, 100, 58, 32, 110, 111, 110, 101])]))
def laid_levelhand_api_ErrExist {H : Type} : DataW H := .iface "*errors.errorString" (.ptr (.agg [.lit (.string [108, 101, 118, 101, 108, 104, 97, 110, 100, 58, 32, 101, 120, 105, 115, 116])]))
def laid_levelhand_api_ErrFull {H : Type} : DataW H := .iface "*errors.errorString" (.ptr (.agg [.lit (.string [108, 101, 118, 101, 108, 104, 97, 110, 100, 58, 32, 102, 117, 108, 108])]))
def laid_levelhand_api_ErrSum {H : Type} : DataW H := .iface "*errors.errorString" (.ptr (.agg [.lit (.string [108, 101, 118, 101, 108, 104, 97, 110, 100, 58, 32, 115, 117, 109])]))

/-- 'levelhandlaw2.FlowsStay': WHATEVER THE INPUT: true; the input reads as it did. -/
def flowsStaySpec : ChangeSpec := { name := "flowsStay", fn := fun _ => fun
  | [d1, d2, d3, d4] => { results := [.lit (.bool true)], args := [d1, d2, d3, d4] }
  | _ => none }
def flowsStayRow : OpenClaim := { program := "ytlgnhifjakkodaadoor", sum := "2a5bc24c616abaf2e1855a3cfc695bdc4cad933d279e529f13fd4cc6fef81783", func := "levelhand/levelhandlaw2.FlowsStay", spec := "flowsStay", unfollowed := true, recurses := true, named := ["levelhand/api.ErrBound", "levelhand/api.ErrOld", "levelhand/api.ErrName"], apart := false, laid := [("levelhand/api.ErrBound", laid_levelhand_api_ErrBound), ("levelhand/api.ErrName", laid_levelhand_api_ErrName), ("levelhand/api.ErrOld", laid_levelhand_api_ErrOld)] }
def FlowsStaySaid : Prop := flowsStayRow.holds Tryd.pinned (OpenSpec.ofChange flowsStaySpec)

/-- ITS FALSE NEIGHBOUR: 'it returns false'. Refute it at one input. -/
def flowsStayWrong : ChangeSpec := { name := "flowsStay", fn := fun _ => fun
  | [d1, d2, d3, d4] => { results := [.lit (.bool false)], args := [d1, d2, d3, d4] }
  | _ => none }
def FlowsStayWrongFalsely : Prop := flowsStayRow.holds Tryd.pinned (OpenSpec.ofChange flowsStayWrong)

/-- 'levelhandlaw2.FlowsActs': WHATEVER THE INPUT: true; the input reads as it did. -/
def flowsActsSpec : ChangeSpec := { name := "flowsActs", fn := fun _ => fun
  | [d1, d2] => { results := [.lit (.bool true)], args := [d1, d2] }
  | _ => none }
def flowsActsRow : OpenClaim := { program := "ytlgnhifjakkodaadoor", sum := "2a5bc24c616abaf2e1855a3cfc695bdc4cad933d279e529f13fd4cc6fef81783", func := "levelhand/levelhandlaw2.FlowsActs", spec := "flowsActs", inPlace := ["internal/reflectlite.ValueOf", "(internal/reflectlite.Value).Type", "(internal/reflectlite.Value).IsNil", "internal/reflectlite.TypeOf", "(internal/reflectlite.Value).Elem", "(internal/reflectlite.Value).Set"], unfollowed := true, recurses := true, named := ["levelhand/api.ErrBound", "levelhand/api.ErrOld", "levelhand/api.ErrName", "levelhand/api.ErrText", "levelhand/api.ErrShape", "levelhand/api.ErrNone", "levelhand/api.ErrExist", "levelhand/api.ErrFull", "levelhand/api.ErrSum", "errors.errorType"], apart := false, laid := [("errors.errorType", laid_errors_errorType), ("levelhand/api.ErrText", laid_levelhand_api_ErrText), ("levelhand/api.ErrBound", laid_levelhand_api_ErrBound), ("levelhand/api.ErrShape", laid_levelhand_api_ErrShape), ("levelhand/api.ErrName", laid_levelhand_api_ErrName), ("levelhand/api.ErrNone", laid_levelhand_api_ErrNone), ("levelhand/api.ErrExist", laid_levelhand_api_ErrExist), ("levelhand/api.ErrFull", laid_levelhand_api_ErrFull), ("levelhand/api.ErrOld", laid_levelhand_api_ErrOld), ("levelhand/api.ErrSum", laid_levelhand_api_ErrSum)] }
def FlowsActsSaid : Prop := flowsActsRow.holds Tryd.pinned (OpenSpec.ofChange flowsActsSpec)

/-- ITS FALSE NEIGHBOUR: 'it returns false'. Refute it at one input. -/
def flowsActsWrong : ChangeSpec := { name := "flowsActs", fn := fun _ => fun
  | [d1, d2] => { results := [.lit (.bool false)], args := [d1, d2] }
  | _ => none }
def FlowsActsWrongFalsely : Prop := flowsActsRow.holds Tryd.pinned (OpenSpec.ofChange flowsActsWrong)

/- THE SECOND FORM. 'bulk': how many values and letters a reading holds, each counted each time it is reached (what is shared counts as often as it is met; a slice's spare places count too). A statement '..UptoSaid' is the law's where the arguments, and the package variables that the reading takes, are together of bulk at most 1048576: NARROWER than '..Said'. Prove '..Said' where nothing that the law and all that it calls make is longer than what came in: it says more and counts as full. Else prove '..UptoSaid'. A law counts once. -/
mutual
def uptoBulk {H : Type} : DataW H → Nat
  | .lit (.string bytes) => bytes.length + 1
  | .lit _ => 1
  | .nil => 1
  | .ptr d => uptoBulk d + 1
  | .slice elems spare => uptoBulkAll elems + uptoBulkAll spare + 1
  | .agg parts => uptoBulkAll parts + 1
  | .iface _ d => uptoBulk d + 1
  | .map entries => uptoBulkEntries entries + 1
  | .held _ => 1
def uptoBulkAll {H : Type} : List (DataW H) → Nat
  | [] => 0
  | d :: r => uptoBulk d + uptoBulkAll r
def uptoBulkEntries {H : Type} : List (Lit × DataW H) → Nat
  | [] => 0
  | x :: r => uptoBulkEntry x + uptoBulkEntries r
def uptoBulkEntry {H : Type} : Lit × DataW H → Nat
  | (.string bytes, d) => bytes.length + uptoBulk d + 1
  | (_, d) => uptoBulk d + 1
 end
def uptoSmall : (H : Type) → List (DataW H) → Bool := fun _ ds => decide (uptoBulkAll ds ≤ 1048576)
def OpenSpec.upto (s : _root_.Go.ChangeSpec) : _root_.Go.OpenSpec := { _root_.Go.OpenSpec.ofChange s with cond := some uptoSmall }

/-- 'levelhandlaw2.FlowsStay', WHERE WHAT IT READS IS OF BULK AT MOST 1048576: true; the input reads as it did. -/
def flowsStayUptoRow : OpenClaim := { program := "ytlgnhifjakkodaadoor", sum := "2a5bc24c616abaf2e1855a3cfc695bdc4cad933d279e529f13fd4cc6fef81783", func := "levelhand/levelhandlaw2.FlowsStay", spec := "flowsStay", unfollowed := true, recurses := true, named := ["levelhand/api.ErrBound", "levelhand/api.ErrOld", "levelhand/api.ErrName"], apart := false, laid := [("levelhand/api.ErrBound", laid_levelhand_api_ErrBound), ("levelhand/api.ErrName", laid_levelhand_api_ErrName), ("levelhand/api.ErrOld", laid_levelhand_api_ErrOld)], narrowed := true }
def FlowsStayUptoSaid : Prop := flowsStayUptoRow.holds Tryd.pinned (OpenSpec.upto flowsStaySpec)

/-- 'levelhandlaw2.FlowsActs', WHERE WHAT IT READS IS OF BULK AT MOST 1048576: true; the input reads as it did. -/
def flowsActsUptoRow : OpenClaim := { program := "ytlgnhifjakkodaadoor", sum := "2a5bc24c616abaf2e1855a3cfc695bdc4cad933d279e529f13fd4cc6fef81783", func := "levelhand/levelhandlaw2.FlowsActs", spec := "flowsActs", inPlace := ["internal/reflectlite.ValueOf", "(internal/reflectlite.Value).Type", "(internal/reflectlite.Value).IsNil", "internal/reflectlite.TypeOf", "(internal/reflectlite.Value).Elem", "(internal/reflectlite.Value).Set"], unfollowed := true, recurses := true, named := ["levelhand/api.ErrBound", "levelhand/api.ErrOld", "levelhand/api.ErrName", "levelhand/api.ErrText", "levelhand/api.ErrShape", "levelhand/api.ErrNone", "levelhand/api.ErrExist", "levelhand/api.ErrFull", "levelhand/api.ErrSum", "errors.errorType"], apart := false, laid := [("errors.errorType", laid_errors_errorType), ("levelhand/api.ErrText", laid_levelhand_api_ErrText), ("levelhand/api.ErrBound", laid_levelhand_api_ErrBound), ("levelhand/api.ErrShape", laid_levelhand_api_ErrShape), ("levelhand/api.ErrName", laid_levelhand_api_ErrName), ("levelhand/api.ErrNone", laid_levelhand_api_ErrNone), ("levelhand/api.ErrExist", laid_levelhand_api_ErrExist), ("levelhand/api.ErrFull", laid_levelhand_api_ErrFull), ("levelhand/api.ErrOld", laid_levelhand_api_ErrOld), ("levelhand/api.ErrSum", laid_levelhand_api_ErrSum)], narrowed := true }
def FlowsActsUptoSaid : Prop := flowsActsUptoRow.holds Tryd.pinned (OpenSpec.upto flowsActsSpec)

end Rows
end Go.Proofs.YtlgnhifjakkodaaDoor
