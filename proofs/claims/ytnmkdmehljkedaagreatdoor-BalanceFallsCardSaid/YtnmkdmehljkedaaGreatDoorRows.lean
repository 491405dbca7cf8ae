/-
  NARROWER THAN 'FOR EVERY INPUT', by the rows' own cells (each row's printed sentence says how): BalanceFalls: laid.
  DERIVED. THE GIVEN ROWS OF THIS SEAT. 1 by the template 'for every input the law returns true; each argument reads behind the call as it read before'; 0 by the template 'total and deterministic' (their statements: YtnmkdmehljkedaaGreatDoorTotals.lean).
  GIVEN WITH THE SEED: the statements are not yours to turn. If you find one false, say at which input.
  Laid BY PROGRAM, IN A SANDBOX (cutbox-rows.mjs): the forced cells as the released guide's own fill.sh prints them over the translation 611c9d83e7de7c8f… (all of the seat's roots in one cut). By AI agents, Wed Nov 11 2026. No macro, syntax, notation, axiom, sorry.
-/
import Derived.Test.YtnmkdmehljkedaaGreatDoorChecked
import GoSem.Claim
import GoSem.ClaimJoined
import GoSem.ClaimMapViews
import Derived.JoinedTies
import Derived.KernelRfl
namespace Go.Proofs.YtnmkdmehljkedaaGreatDoor
/- THE CELL 'sum', in the pinned program and in every row, IS THE sha256 OF THE DUMP (.gsa) THAT YtnmkdmehljkedaaGreatDoorProg.lean LOADS. Nothing in Lean hashes anything: it is a label: what it is worth is what the hold of that sum in a sandbox is worth. -/
noncomputable def Tryz.pinned : Pinned := { name := "ytnmkdmehljkedaagreatdoor", sum := "611c9d83e7de7c8f06cb3e799b55abc08a2d67dcdf65ad499e63f3a87a2b9d0c", checked := Tryz.checked }
namespace Rows
def none {H : Type} : Left H := { results := [], args := [] }

/- WHAT THE LISTED PACKAGE-LEVEL VARIABLES READ AS WHEN THE CALL BEGINS. Each datum BY PROGRAM (the guide's laid-datum.mjs) off the statement by which the dump's own 'gosem.cut.vars' lays the variable. In a bare row this is a premise. The card (YtnmkdmehljkedaaGreatDoorCards.lean) ties it to the program's text. -/
def laid_levelhand_api_ErrBound {H : Type} : DataW H := .iface "*errors.errorString" (.ptr (.agg [.lit (.string [108, 101, 118, 101, 108, 104, 97, 110, 100, 58, 32, 98, 111, 117, 110, 100])]))
def laid_levelhand_api_ErrShape {H : Type} : DataW H := .iface "*errors.errorString" (.ptr (.agg [.lit (.string [108, 101, 118, 101, 108, 104, 97, 110, 100, 58, 32, 115, 104, 97, 112, 101])]))
def laid_levelhand_api_ErrName {H : Type} : DataW H := .iface "*errors.errorString" (.ptr (.agg [.lit (.string [108, 101, 118, 101, 108, 104, 97, 110, 100, 58, 32, 110, 97, 109, 101])]))
def laid_levelhand_api_ErrNone {H : Type} : DataW H := .iface "*errors.errorString" (.ptr (.agg [.lit (.string [108, 101, 118, 101, 108, 104, 97, 110, 100, 58, 32, 110, 111, 110, 101])]))
def laid_levelhand_api_ErrExist {H : Type} : DataW H := .iface "*errors.errorString" (.ptr (.agg [.lit (.string [108, 101, 118, 101, 108, 104, 97, 110, 100, 58, 32, 101, 120, 105, 115, 116])]))
def laid_levelhand_api_ErrOld {H : Type} : DataW H := .iface "*errors.errorString" (.ptr (.agg [.lit (.string [108, 101, 118, 101, 108, 104, 97, 110, 100, 58, 32, 111, 108, 100])]))

/-- 'levelhandlaw3.BalanceFalls': WHATEVER THE INPUT: true; the input reads as it did. -/
def balanceFallsSpec : ChangeSpec := { name := "balanceFalls", fn := fun _ => fun
  | [d1, d2] => { results := [.lit (.bool true)], args := [d1, d2] }
  | _ => none }
def balanceFallsRow : OpenClaim := { program := "ytnmkdmehljkedaagreatdoor", sum := "611c9d83e7de7c8f06cb3e799b55abc08a2d67dcdf65ad499e63f3a87a2b9d0c", func := "levelhand/levelhandlaw3.BalanceFalls", spec := "balanceFalls", unfollowed := true, recurses := true, named := ["levelhand/api.ErrNone", "levelhand/api.ErrBound", "levelhand/api.ErrName", "levelhand/api.ErrExist", "levelhand/api.ErrShape", "levelhand/api.ErrOld"], apart := false, laid := [("levelhand/api.ErrBound", laid_levelhand_api_ErrBound), ("levelhand/api.ErrShape", laid_levelhand_api_ErrShape), ("levelhand/api.ErrName", laid_levelhand_api_ErrName), ("levelhand/api.ErrNone", laid_levelhand_api_ErrNone), ("levelhand/api.ErrExist", laid_levelhand_api_ErrExist), ("levelhand/api.ErrOld", laid_levelhand_api_ErrOld)] }
def BalanceFallsSaid : Prop := balanceFallsRow.holds Tryz.pinned (OpenSpec.ofChange balanceFallsSpec)

/-- ITS FALSE NEIGHBOUR: 'it returns false'. Refute it at one input. -/
def balanceFallsWrong : ChangeSpec := { name := "balanceFalls", fn := fun _ => fun
  | [d1, d2] => { results := [.lit (.bool false)], args := [d1, d2] }
  | _ => none }
def BalanceFallsWrongFalsely : Prop := balanceFallsRow.holds Tryz.pinned (OpenSpec.ofChange balanceFallsWrong)

/- THE SECOND FORM. 'bulk': how many values and letters a reading holds, each counted each time it is reached (what is shared counts as often as it is met; a slice's spare places count too). A statement '..UptoSaid' is the law's where the arguments, and the package variables that the reading takes, are together of bulk at most 1048576: NARROWER than '..Said'. Prove '..Said' where nothing that the law and all that it calls make is longer than what came in: it says more and counts as full. Else prove '..UptoSaid'. A law counts once. -/
mutual
def uptoBulk {H : Type} : DataW H → Nat
  | .lit (.string bytes) => bytes.length + 1
  | .lit _ => 1
  | .nil => 1
  | .ptr d => uptoBulk d + 1
  | .slice elems spare => uptoBulkAll elems + uptoBulkAll spare + 1
  | .agg parts => uptoBulkAll parts + 1
  | .iface _ d => uptoBulk d + 1
  | .map entries => uptoBulkEntries entries + 1
  | .held _ => 1
def uptoBulkAll {H : Type} : List (DataW H) → Nat
  | [] => 0
  | d :: r => uptoBulk d + uptoBulkAll r
def uptoBulkEntries {H : Type} : List (Lit × DataW H) → Nat
  | [] => 0
  | x :: r => uptoBulkEntry x + uptoBulkEntries r
def uptoBulkEntry {H : Type} : Lit × DataW H → Nat
  | (.string bytes, d) => bytes.length + uptoBulk d + 1
  | (_, d) => uptoBulk d + 1
 end
def uptoSmall : (H : Type) → List (DataW H) → Bool := fun _ ds => decide (uptoBulkAll ds ≤ 1048576)
def OpenSpec.upto (s : _root_.Go.ChangeSpec) : _root_.Go.OpenSpec := { _root_.Go.OpenSpec.ofChange s with cond := some uptoSmall }

/-- 'levelhandlaw3.BalanceFalls', WHERE WHAT IT READS IS OF BULK AT MOST 1048576: true; the input reads as it did. -/
def balanceFallsUptoRow : OpenClaim := { program := "ytnmkdmehljkedaagreatdoor", sum := "611c9d83e7de7c8f06cb3e799b55abc08a2d67dcdf65ad499e63f3a87a2b9d0c", func := "levelhand/levelhandlaw3.BalanceFalls", spec := "balanceFalls", unfollowed := true, recurses := true, named := ["levelhand/api.ErrNone", "levelhand/api.ErrBound", "levelhand/api.ErrName", "levelhand/api.ErrExist", "levelhand/api.ErrShape", "levelhand/api.ErrOld"], apart := false, laid := [("levelhand/api.ErrBound", laid_levelhand_api_ErrBound), ("levelhand/api.ErrShape", laid_levelhand_api_ErrShape), ("levelhand/api.ErrName", laid_levelhand_api_ErrName), ("levelhand/api.ErrNone", laid_levelhand_api_ErrNone), ("levelhand/api.ErrExist", laid_levelhand_api_ErrExist), ("levelhand/api.ErrOld", laid_levelhand_api_ErrOld)], narrowed := true }
def BalanceFallsUptoSaid : Prop := balanceFallsUptoRow.holds Tryz.pinned (OpenSpec.upto balanceFallsSpec)

end Rows
end Go.Proofs.YtnmkdmehljkedaaGreatDoor
