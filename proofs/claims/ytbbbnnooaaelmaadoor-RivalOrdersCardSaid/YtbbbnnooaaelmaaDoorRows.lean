/-
  NARROWER THAN 'FOR EVERY INPUT', by the rows' own cells (each row's printed sentence says how): TableEven: laid · RivalGoes: laid · RivalComes: laid · MixNumbers: laid · RingHosts: laid · FillPlaces: laid · TableMakes: laid · TableCounts: laid · RivalOrders: laid.
  DERIVED. THE GIVEN ROWS OF THIS SEAT. 9 by the template 'for every input the law returns true; each argument reads behind the call as it read before'; 0 by the template 'total and deterministic' (their statements: YtbbbnnooaaelmaaDoorTotals.lean).
  GIVEN WITH THE SEED: the statements are not yours to turn. If you find one false, say at which input.
  Laid BY PROGRAM, IN A SANDBOX (cutbox-rows.mjs): the forced cells as the released guide's own fill.sh prints them over the translation 8d435aee51f328cb… (all of the seat's roots in one cut). By AI agents, Wed Nov 11 2026. No macro, syntax, notation, axiom, sorry.
-/
import Derived.Test.YtbbbnnooaaelmaaDoorChecked
import GoSem.Claim
import GoSem.ClaimJoined
import GoSem.ClaimMapViews
import Derived.JoinedTies
import Derived.KernelRfl
namespace Go.Proofs.YtbbbnnooaaelmaaDoor
/- THE CELL 'sum', in the pinned program and in every row, IS THE sha256 OF THE DUMP (.gsa) THAT YtbbbnnooaaelmaaDoorProg.lean LOADS. Nothing in Lean hashes anything: it is a label: what it is worth is what the hold of that sum in a sandbox is worth. -/
noncomputable def Tryd.pinned : Pinned := { name := "ytbbbnnooaaelmaadoor", sum := "8d435aee51f328cb45923f255cb68b2f4dc0efeb664945612295426b1f073e6e", checked := Tryd.checked }
namespace Rows
def none {H : Type} : Left H := { results := [], args := [] }

/- WHAT THE LISTED PACKAGE-LEVEL VARIABLES READ AS WHEN THE CALL BEGINS. Each datum BY PROGRAM (the guide's laid-datum.mjs) off the statement by which the dump's own 'gosem.cut.vars' lays the variable. In a bare row this is a premise. The card (YtbbbnnooaaelmaaDoorCards.lean) ties it to the program's text. -/
def laid_levelhand_api_ErrBound {H : Type} : DataW H := .iface "*errors.errorString" (.ptr (.agg [.lit (.string [108, 101, 118, 101, 108, 104, 97, 110, 100, 58, 32, 98, 111, 117, 110, 100])]))
def laid_levelhand_api_ErrShape {H : Type} : DataW H := .iface "*errors.errorString" (.ptr (.agg [.lit (.string [108, 101, 118, 101, 108, 104, 97, 110, 100, 58, 32, 115, 104, 97, 112, 101])]))
def laid_levelhand_api_ErrName {H : Type} : DataW H := .iface "*errors.errorString" (.ptr (.agg [.lit (.string [108, 101, 118, 101, 108, 104, 97, 110, 100, 58, 32, 110, 97, 109, 101])]))
def laid_levelhand_api_ErrNone {H : Type} : DataW H := .iface "*errors.errorString" (.ptr (.agg [.lit (.string [108, 101, 118, 101, 108, 104, 97, 110, 100, 58, 32, 110, 111, 110, 101])]))
def laid_levelhand_api_ErrExist {H : Type} : DataW H := .iface "*errors.errorString" (.ptr (.agg [.lit (.string [108, 101, 118, 101, 108, 104, 97, 110, 100, 58, 32, 101, 120, 105, 115, 116])]))
def laid_errors_errorType {H : Type} : DataW H := .iface "internal/reflectlite.rtype" (.agg [.ptr (.lit (.string [101, 114, 114, 111, 114]))])
def laid_levelhand_api_ErrText {H : Type} : DataW H := .iface "*errors.errorString" (.ptr (.agg [.lit (.string [108, 101, 118, 101, 108, 104, 97, 110, 100, 58, 32, 116, 101, 120, 116])]))
def laid_levelhand_api_ErrFull {H : Type} : DataW H := .iface "*errors.errorString" (.ptr (.agg [.lit (.string [108, 101, 118, 101, 108, 104, 97, 110, 100, 58, 32, 102, 117, 108, 108])]))
def laid_levelhand_api_ErrOld {H : Type} : DataW H := .iface "*errors.errorString" (.ptr (.agg [.lit (.string [108, 101, 118, 101, 108, 104, 97, 110, 100, 58, 32, 111, 108, 100])]))
def laid_levelhand_api_ErrSum {H : Type} : DataW H := .iface "*errors.errorString" (.ptr (.agg [.lit (.string [108, 101, 118, 101, 108, 104, 97, 110, 100, 58, 32, 115, 117, 109])]))

/-- 'levelhandlaw1.TableEven': WHATEVER THE INPUT: true; the input reads as it did. -/
def tableEvenSpec : ChangeSpec := { name := "tableEven", fn := fun _ => fun
  | [d1, d2, d3] => { results := [.lit (.bool true)], args := [d1, d2, d3] }
  | _ => none }
def tableEvenRow : OpenClaim := { program := "ytbbbnnooaaelmaadoor", sum := "8d435aee51f328cb45923f255cb68b2f4dc0efeb664945612295426b1f073e6e", func := "levelhand/levelhandlaw1.TableEven", spec := "tableEven", unfollowed := true, recurses := true, named := ["levelhand/api.ErrNone", "levelhand/api.ErrBound", "levelhand/api.ErrName", "levelhand/api.ErrExist", "levelhand/api.ErrShape"], apart := false, laid := [("levelhand/api.ErrBound", laid_levelhand_api_ErrBound), ("levelhand/api.ErrShape", laid_levelhand_api_ErrShape), ("levelhand/api.ErrName", laid_levelhand_api_ErrName), ("levelhand/api.ErrNone", laid_levelhand_api_ErrNone), ("levelhand/api.ErrExist", laid_levelhand_api_ErrExist)] }
def TableEvenSaid : Prop := tableEvenRow.holds Tryd.pinned (OpenSpec.ofChange tableEvenSpec)

/-- ITS FALSE NEIGHBOUR: 'it returns false'. Refute it at one input. -/
def tableEvenWrong : ChangeSpec := { name := "tableEven", fn := fun _ => fun
  | [d1, d2, d3] => { results := [.lit (.bool false)], args := [d1, d2, d3] }
  | _ => none }
def TableEvenWrongFalsely : Prop := tableEvenRow.holds Tryd.pinned (OpenSpec.ofChange tableEvenWrong)

/-- 'levelhandlaw1.RivalGoes': WHATEVER THE INPUT: true; the input reads as it did. -/
def rivalGoesSpec : ChangeSpec := { name := "rivalGoes", fn := fun _ => fun
  | [d1, d2, d3] => { results := [.lit (.bool true)], args := [d1, d2, d3] }
  | _ => none }
def rivalGoesRow : OpenClaim := { program := "ytbbbnnooaaelmaadoor", sum := "8d435aee51f328cb45923f255cb68b2f4dc0efeb664945612295426b1f073e6e", func := "levelhand/levelhandlaw1.RivalGoes", spec := "rivalGoes", unfollowed := true, recurses := true, named := ["levelhand/api.ErrNone", "levelhand/api.ErrBound", "levelhand/api.ErrName", "levelhand/api.ErrExist"], apart := false, laid := [("levelhand/api.ErrBound", laid_levelhand_api_ErrBound), ("levelhand/api.ErrName", laid_levelhand_api_ErrName), ("levelhand/api.ErrNone", laid_levelhand_api_ErrNone), ("levelhand/api.ErrExist", laid_levelhand_api_ErrExist)] }
def RivalGoesSaid : Prop := rivalGoesRow.holds Tryd.pinned (OpenSpec.ofChange rivalGoesSpec)

/-- ITS FALSE NEIGHBOUR: 'it returns false'. Refute it at one input. -/
def rivalGoesWrong : ChangeSpec := { name := "rivalGoes", fn := fun _ => fun
  | [d1, d2, d3] => { results := [.lit (.bool false)], args := [d1, d2, d3] }
  | _ => none }
def RivalGoesWrongFalsely : Prop := rivalGoesRow.holds Tryd.pinned (OpenSpec.ofChange rivalGoesWrong)

/-- 'levelhandlaw1.RivalComes': WHATEVER THE INPUT: true; the input reads as it did. -/
def rivalComesSpec : ChangeSpec := { name := "rivalComes", fn := fun _ => fun
  | [d1, d2, d3, d4] => { results := [.lit (.bool true)], args := [d1, d2, d3, d4] }
  | _ => none }
def rivalComesRow : OpenClaim := { program := "ytbbbnnooaaelmaadoor", sum := "8d435aee51f328cb45923f255cb68b2f4dc0efeb664945612295426b1f073e6e", func := "levelhand/levelhandlaw1.RivalComes", spec := "rivalComes", unfollowed := true, recurses := true, named := ["levelhand/api.ErrNone", "levelhand/api.ErrBound", "levelhand/api.ErrName", "levelhand/api.ErrExist"], apart := false, laid := [("levelhand/api.ErrBound", laid_levelhand_api_ErrBound), ("levelhand/api.ErrName", laid_levelhand_api_ErrName), ("levelhand/api.ErrNone", laid_levelhand_api_ErrNone), ("levelhand/api.ErrExist", laid_levelhand_api_ErrExist)] }
def RivalComesSaid : Prop := rivalComesRow.holds Tryd.pinned (OpenSpec.ofChange rivalComesSpec)

/-- ITS FALSE NEIGHBOUR: 'it returns false'. Refute it at one input. -/
def rivalComesWrong : ChangeSpec := { name := "rivalComes", fn := fun _ => fun
  | [d1, d2, d3, d4] => { results := [.lit (.bool false)], args := [d1, d2, d3, d4] }
  | _ => none }
def RivalComesWrongFalsely : Prop := rivalComesRow.holds Tryd.pinned (OpenSpec.ofChange rivalComesWrong)

/-- 'levelhandlaw1.MixNumbers': WHATEVER THE INPUT: true; the input reads as it did. -/
def mixNumbersSpec : ChangeSpec := { name := "mixNumbers", fn := fun _ => fun
  | [d1, d2, d3, d4] => { results := [.lit (.bool true)], args := [d1, d2, d3, d4] }
  | _ => none }
def mixNumbersRow : OpenClaim := { program := "ytbbbnnooaaelmaadoor", sum := "8d435aee51f328cb45923f255cb68b2f4dc0efeb664945612295426b1f073e6e", func := "levelhand/levelhandlaw1.MixNumbers", spec := "mixNumbers", inPlace := ["internal/reflectlite.ValueOf", "(internal/reflectlite.Value).Type", "(internal/reflectlite.Value).IsNil", "internal/reflectlite.TypeOf", "(internal/reflectlite.Value).Elem", "(internal/reflectlite.Value).Set"], unfollowed := true, recurses := true, named := ["levelhand/api.ErrBound", "levelhand/api.ErrName", "levelhand/api.ErrExist", "levelhand/api.ErrText", "levelhand/api.ErrShape", "levelhand/api.ErrNone", "levelhand/api.ErrFull", "levelhand/api.ErrOld", "levelhand/api.ErrSum", "errors.errorType"], apart := false, laid := [("errors.errorType", laid_errors_errorType), ("levelhand/api.ErrText", laid_levelhand_api_ErrText), ("levelhand/api.ErrBound", laid_levelhand_api_ErrBound), ("levelhand/api.ErrShape", laid_levelhand_api_ErrShape), ("levelhand/api.ErrName", laid_levelhand_api_ErrName), ("levelhand/api.ErrNone", laid_levelhand_api_ErrNone), ("levelhand/api.ErrExist", laid_levelhand_api_ErrExist), ("levelhand/api.ErrFull", laid_levelhand_api_ErrFull), ("levelhand/api.ErrOld", laid_levelhand_api_ErrOld), ("levelhand/api.ErrSum", laid_levelhand_api_ErrSum)] }
def MixNumbersSaid : Prop := mixNumbersRow.holds Tryd.pinned (OpenSpec.ofChange mixNumbersSpec)

/-- ITS FALSE NEIGHBOUR: 'it returns false'. Refute it at one input. -/
def mixNumbersWrong : ChangeSpec := { name := "mixNumbers", fn := fun _ => fun
  | [d1, d2, d3, d4] => { results := [.lit (.bool false)], args := [d1, d2, d3, d4] }
  | _ => none }
def MixNumbersWrongFalsely : Prop := mixNumbersRow.holds Tryd.pinned (OpenSpec.ofChange mixNumbersWrong)

/-- 'levelhandlaw1.RingHosts': WHATEVER THE INPUT: true; the input reads as it did. -/
def ringHostsSpec : ChangeSpec := { name := "ringHosts", fn := fun _ => fun
  | [d1, d2, d3, d4] => { results := [.lit (.bool true)], args := [d1, d2, d3, d4] }
  | _ => none }
def ringHostsRow : OpenClaim := { program := "ytbbbnnooaaelmaadoor", sum := "8d435aee51f328cb45923f255cb68b2f4dc0efeb664945612295426b1f073e6e", func := "levelhand/levelhandlaw1.RingHosts", spec := "ringHosts", inPlace := ["internal/reflectlite.ValueOf", "(internal/reflectlite.Value).Type", "(internal/reflectlite.Value).IsNil", "internal/reflectlite.TypeOf", "(internal/reflectlite.Value).Elem", "(internal/reflectlite.Value).Set"], unfollowed := true, recurses := true, named := ["levelhand/api.ErrNone", "levelhand/api.ErrBound", "levelhand/api.ErrName", "levelhand/api.ErrExist", "levelhand/api.ErrText", "levelhand/api.ErrShape", "levelhand/api.ErrFull", "levelhand/api.ErrOld", "levelhand/api.ErrSum", "errors.errorType"], apart := false, laid := [("errors.errorType", laid_errors_errorType), ("levelhand/api.ErrText", laid_levelhand_api_ErrText), ("levelhand/api.ErrBound", laid_levelhand_api_ErrBound), ("levelhand/api.ErrShape", laid_levelhand_api_ErrShape), ("levelhand/api.ErrName", laid_levelhand_api_ErrName), ("levelhand/api.ErrNone", laid_levelhand_api_ErrNone), ("levelhand/api.ErrExist", laid_levelhand_api_ErrExist), ("levelhand/api.ErrFull", laid_levelhand_api_ErrFull), ("levelhand/api.ErrOld", laid_levelhand_api_ErrOld), ("levelhand/api.ErrSum", laid_levelhand_api_ErrSum)] }
def RingHostsSaid : Prop := ringHostsRow.holds Tryd.pinned (OpenSpec.ofChange ringHostsSpec)

/-- ITS FALSE NEIGHBOUR: 'it returns false'. Refute it at one input. -/
def ringHostsWrong : ChangeSpec := { name := "ringHosts", fn := fun _ => fun
  | [d1, d2, d3, d4] => { results := [.lit (.bool false)], args := [d1, d2, d3, d4] }
  | _ => none }
def RingHostsWrongFalsely : Prop := ringHostsRow.holds Tryd.pinned (OpenSpec.ofChange ringHostsWrong)

/-- 'levelhandlaw1.FillPlaces': WHATEVER THE INPUT: true; the input reads as it did. -/
def fillPlacesSpec : ChangeSpec := { name := "fillPlaces", fn := fun _ => fun
  | [d1, d2, d3, d4, d5, d6] => { results := [.lit (.bool true)], args := [d1, d2, d3, d4, d5, d6] }
  | _ => none }
def fillPlacesRow : OpenClaim := { program := "ytbbbnnooaaelmaadoor", sum := "8d435aee51f328cb45923f255cb68b2f4dc0efeb664945612295426b1f073e6e", func := "levelhand/levelhandlaw1.FillPlaces", spec := "fillPlaces", inPlace := ["internal/reflectlite.ValueOf", "(internal/reflectlite.Value).Type", "(internal/reflectlite.Value).IsNil", "internal/reflectlite.TypeOf", "(internal/reflectlite.Value).Elem", "(internal/reflectlite.Value).Set"], unfollowed := true, recurses := true, named := ["levelhand/api.ErrExist", "levelhand/api.ErrNone", "levelhand/api.ErrBound", "levelhand/api.ErrName", "levelhand/api.ErrText", "levelhand/api.ErrShape", "levelhand/api.ErrFull", "levelhand/api.ErrOld", "levelhand/api.ErrSum", "errors.errorType"], apart := false, laid := [("errors.errorType", laid_errors_errorType), ("levelhand/api.ErrText", laid_levelhand_api_ErrText), ("levelhand/api.ErrBound", laid_levelhand_api_ErrBound), ("levelhand/api.ErrShape", laid_levelhand_api_ErrShape), ("levelhand/api.ErrName", laid_levelhand_api_ErrName), ("levelhand/api.ErrNone", laid_levelhand_api_ErrNone), ("levelhand/api.ErrExist", laid_levelhand_api_ErrExist), ("levelhand/api.ErrFull", laid_levelhand_api_ErrFull), ("levelhand/api.ErrOld", laid_levelhand_api_ErrOld), ("levelhand/api.ErrSum", laid_levelhand_api_ErrSum)] }
def FillPlacesSaid : Prop := fillPlacesRow.holds Tryd.pinned (OpenSpec.ofChange fillPlacesSpec)

/-- ITS FALSE NEIGHBOUR: 'it returns false'. Refute it at one input. -/
def fillPlacesWrong : ChangeSpec := { name := "fillPlaces", fn := fun _ => fun
  | [d1, d2, d3, d4, d5, d6] => { results := [.lit (.bool false)], args := [d1, d2, d3, d4, d5, d6] }
  | _ => none }
def FillPlacesWrongFalsely : Prop := fillPlacesRow.holds Tryd.pinned (OpenSpec.ofChange fillPlacesWrong)

/-- 'levelhandlaw1.TableMakes': WHATEVER THE INPUT: true; the input reads as it did. -/
def tableMakesSpec : ChangeSpec := { name := "tableMakes", fn := fun _ => fun
  | [d1, d2, d3] => { results := [.lit (.bool true)], args := [d1, d2, d3] }
  | _ => none }
def tableMakesRow : OpenClaim := { program := "ytbbbnnooaaelmaadoor", sum := "8d435aee51f328cb45923f255cb68b2f4dc0efeb664945612295426b1f073e6e", func := "levelhand/levelhandlaw1.TableMakes", spec := "tableMakes", inPlace := ["internal/reflectlite.ValueOf", "(internal/reflectlite.Value).Type", "(internal/reflectlite.Value).IsNil", "internal/reflectlite.TypeOf", "(internal/reflectlite.Value).Elem", "(internal/reflectlite.Value).Set"], unfollowed := true, recurses := true, named := ["levelhand/api.ErrNone", "levelhand/api.ErrBound", "levelhand/api.ErrName", "levelhand/api.ErrExist", "levelhand/api.ErrShape", "levelhand/api.ErrText", "levelhand/api.ErrFull", "levelhand/api.ErrOld", "levelhand/api.ErrSum", "errors.errorType"], apart := false, laid := [("errors.errorType", laid_errors_errorType), ("levelhand/api.ErrText", laid_levelhand_api_ErrText), ("levelhand/api.ErrBound", laid_levelhand_api_ErrBound), ("levelhand/api.ErrShape", laid_levelhand_api_ErrShape), ("levelhand/api.ErrName", laid_levelhand_api_ErrName), ("levelhand/api.ErrNone", laid_levelhand_api_ErrNone), ("levelhand/api.ErrExist", laid_levelhand_api_ErrExist), ("levelhand/api.ErrFull", laid_levelhand_api_ErrFull), ("levelhand/api.ErrOld", laid_levelhand_api_ErrOld), ("levelhand/api.ErrSum", laid_levelhand_api_ErrSum)] }
def TableMakesSaid : Prop := tableMakesRow.holds Tryd.pinned (OpenSpec.ofChange tableMakesSpec)

/-- ITS FALSE NEIGHBOUR: 'it returns false'. Refute it at one input. -/
def tableMakesWrong : ChangeSpec := { name := "tableMakes", fn := fun _ => fun
  | [d1, d2, d3] => { results := [.lit (.bool false)], args := [d1, d2, d3] }
  | _ => none }
def TableMakesWrongFalsely : Prop := tableMakesRow.holds Tryd.pinned (OpenSpec.ofChange tableMakesWrong)

/-- 'levelhandlaw1.TableCounts': WHATEVER THE INPUT: true; the input reads as it did. -/
def tableCountsSpec : ChangeSpec := { name := "tableCounts", fn := fun _ => fun
  | [d1, d2, d3, d4, d5] => { results := [.lit (.bool true)], args := [d1, d2, d3, d4, d5] }
  | _ => none }
def tableCountsRow : OpenClaim := { program := "ytbbbnnooaaelmaadoor", sum := "8d435aee51f328cb45923f255cb68b2f4dc0efeb664945612295426b1f073e6e", func := "levelhand/levelhandlaw1.TableCounts", spec := "tableCounts", inPlace := ["internal/reflectlite.ValueOf", "(internal/reflectlite.Value).Type", "(internal/reflectlite.Value).IsNil", "internal/reflectlite.TypeOf", "(internal/reflectlite.Value).Elem", "(internal/reflectlite.Value).Set"], unfollowed := true, recurses := true, named := ["levelhand/api.ErrNone", "levelhand/api.ErrBound", "levelhand/api.ErrName", "levelhand/api.ErrExist", "levelhand/api.ErrShape", "levelhand/api.ErrText", "levelhand/api.ErrFull", "levelhand/api.ErrOld", "levelhand/api.ErrSum", "errors.errorType"], apart := false, laid := [("errors.errorType", laid_errors_errorType), ("levelhand/api.ErrText", laid_levelhand_api_ErrText), ("levelhand/api.ErrBound", laid_levelhand_api_ErrBound), ("levelhand/api.ErrShape", laid_levelhand_api_ErrShape), ("levelhand/api.ErrName", laid_levelhand_api_ErrName), ("levelhand/api.ErrNone", laid_levelhand_api_ErrNone), ("levelhand/api.ErrExist", laid_levelhand_api_ErrExist), ("levelhand/api.ErrFull", laid_levelhand_api_ErrFull), ("levelhand/api.ErrOld", laid_levelhand_api_ErrOld), ("levelhand/api.ErrSum", laid_levelhand_api_ErrSum)] }
def TableCountsSaid : Prop := tableCountsRow.holds Tryd.pinned (OpenSpec.ofChange tableCountsSpec)

/-- ITS FALSE NEIGHBOUR: 'it returns false'. Refute it at one input. -/
def tableCountsWrong : ChangeSpec := { name := "tableCounts", fn := fun _ => fun
  | [d1, d2, d3, d4, d5] => { results := [.lit (.bool false)], args := [d1, d2, d3, d4, d5] }
  | _ => none }
def TableCountsWrongFalsely : Prop := tableCountsRow.holds Tryd.pinned (OpenSpec.ofChange tableCountsWrong)

/-- 'levelhandlaw1.RivalOrders': WHATEVER THE INPUT: true; the input reads as it did. -/
def rivalOrdersSpec : ChangeSpec := { name := "rivalOrders", fn := fun _ => fun
  | [d1, d2] => { results := [.lit (.bool true)], args := [d1, d2] }
  | _ => none }
def rivalOrdersRow : OpenClaim := { program := "ytbbbnnooaaelmaadoor", sum := "8d435aee51f328cb45923f255cb68b2f4dc0efeb664945612295426b1f073e6e", func := "levelhand/levelhandlaw1.RivalOrders", spec := "rivalOrders", inPlace := ["internal/reflectlite.ValueOf", "(internal/reflectlite.Value).Type", "(internal/reflectlite.Value).IsNil", "internal/reflectlite.TypeOf", "(internal/reflectlite.Value).Elem", "(internal/reflectlite.Value).Set"], unfollowed := true, recurses := true, named := ["levelhand/api.ErrNone", "levelhand/api.ErrBound", "levelhand/api.ErrName", "levelhand/api.ErrExist", "levelhand/api.ErrText", "levelhand/api.ErrShape", "levelhand/api.ErrFull", "levelhand/api.ErrOld", "levelhand/api.ErrSum", "errors.errorType"], apart := false, laid := [("errors.errorType", laid_errors_errorType), ("levelhand/api.ErrText", laid_levelhand_api_ErrText), ("levelhand/api.ErrBound", laid_levelhand_api_ErrBound), ("levelhand/api.ErrShape", laid_levelhand_api_ErrShape), ("levelhand/api.ErrName", laid_levelhand_api_ErrName), ("levelhand/api.ErrNone", laid_levelhand_api_ErrNone), ("levelhand/api.ErrExist", laid_levelhand_api_ErrExist), ("levelhand/api.ErrFull", laid_levelhand_api_ErrFull), ("levelhand/api.ErrOld", laid_levelhand_api_ErrOld), ("levelhand/api.ErrSum", laid_levelhand_api_ErrSum)] }
def RivalOrdersSaid : Prop := rivalOrdersRow.holds Tryd.pinned (OpenSpec.ofChange rivalOrdersSpec)

/-- ITS FALSE NEIGHBOUR: 'it returns false'. Refute it at one input. -/
def rivalOrdersWrong : ChangeSpec := { name := "rivalOrders", fn := fun _ => fun
  | [d1, d2] => { results := [.lit (.bool false)], args := [d1, d2] }
  | _ => none }
def RivalOrdersWrongFalsely : Prop := rivalOrdersRow.holds Tryd.pinned (OpenSpec.ofChange rivalOrdersWrong)

/- THE SECOND FORM. 'bulk': how many values and letters a reading holds, each counted each time it is reached (what is shared counts as often as it is met; a slice's spare places count too). A statement '..UptoSaid' is the law's where the arguments, and the package variables that the reading takes, are together of bulk at most 1048576: NARROWER than '..Said'. Prove '..Said' where nothing that the law and all that it calls make is longer than what came in: it says more and counts as full. Else prove '..UptoSaid'. A law counts once. -/
mutual
def uptoBulk {H : Type} : DataW H → Nat
  | .lit (.string bytes) => bytes.length + 1
  | .lit _ => 1
  | .nil => 1
  | .ptr d => uptoBulk d + 1
  | .slice elems spare => uptoBulkAll elems + uptoBulkAll spare + 1
  | .agg parts => uptoBulkAll parts + 1
  | .iface _ d => uptoBulk d + 1
  | .map entries => uptoBulkEntries entries + 1
  | .held _ => 1
def uptoBulkAll {H : Type} : List (DataW H) → Nat
  | [] => 0
  | d :: r => uptoBulk d + uptoBulkAll r
def uptoBulkEntries {H : Type} : List (Lit × DataW H) → Nat
  | [] => 0
  | x :: r => uptoBulkEntry x + uptoBulkEntries r
def uptoBulkEntry {H : Type} : Lit × DataW H → Nat
  | (.string bytes, d) => bytes.length + uptoBulk d + 1
  | (_, d) => uptoBulk d + 1
 end
def uptoSmall : (H : Type) → List (DataW H) → Bool := fun _ ds => decide (uptoBulkAll ds ≤ 1048576)
def OpenSpec.upto (s : _root_.Go.ChangeSpec) : _root_.Go.OpenSpec := { _root_.Go.OpenSpec.ofChange s with cond := some uptoSmall }

/-- 'levelhandlaw1.TableEven', WHERE WHAT IT READS IS OF BULK AT MOST 1048576: true; the input reads as it did. -/
def tableEvenUptoRow : OpenClaim := { program := "ytbbbnnooaaelmaadoor", sum := "8d435aee51f328cb45923f255cb68b2f4dc0efeb664945612295426b1f073e6e", func := "levelhand/levelhandlaw1.TableEven", spec := "tableEven", unfollowed := true, recurses := true, named := ["levelhand/api.ErrNone", "levelhand/api.ErrBound", "levelhand/api.ErrName", "levelhand/api.ErrExist", "levelhand/api.ErrShape"], apart := false, laid := [("levelhand/api.ErrBound", laid_levelhand_api_ErrBound), ("levelhand/api.ErrShape", laid_levelhand_api_ErrShape), ("levelhand/api.ErrName", laid_levelhand_api_ErrName), ("levelhand/api.ErrNone", laid_levelhand_api_ErrNone), ("levelhand/api.ErrExist", laid_levelhand_api_ErrExist)], narrowed := true }
def TableEvenUptoSaid : Prop := tableEvenUptoRow.holds Tryd.pinned (OpenSpec.upto tableEvenSpec)

/-- 'levelhandlaw1.RivalGoes', WHERE WHAT IT READS IS OF BULK AT MOST 1048576: true; the input reads as it did. -/
def rivalGoesUptoRow : OpenClaim := { program := "ytbbbnnooaaelmaadoor", sum := "8d435aee51f328cb45923f255cb68b2f4dc0efeb664945612295426b1f073e6e", func := "levelhand/levelhandlaw1.RivalGoes", spec := "rivalGoes", unfollowed := true, recurses := true, named := ["levelhand/api.ErrNone", "levelhand/api.ErrBound", "levelhand/api.ErrName", "levelhand/api.ErrExist"], apart := false, laid := [("levelhand/api.ErrBound", laid_levelhand_api_ErrBound), ("levelhand/api.ErrName", laid_levelhand_api_ErrName), ("levelhand/api.ErrNone", laid_levelhand_api_ErrNone), ("levelhand/api.ErrExist", laid_levelhand_api_ErrExist)], narrowed := true }
def RivalGoesUptoSaid : Prop := rivalGoesUptoRow.holds Tryd.pinned (OpenSpec.upto rivalGoesSpec)

/-- 'levelhandlaw1.RivalComes', WHERE WHAT IT READS IS OF BULK AT MOST 1048576: true; the input reads as it did. -/
def rivalComesUptoRow : OpenClaim := { program := "ytbbbnnooaaelmaadoor", sum := "8d435aee51f328cb45923f255cb68b2f4dc0efeb664945612295426b1f073e6e", func := "levelhand/levelhandlaw1.RivalComes", spec := "rivalComes", unfollowed := true, recurses := true, named := ["levelhand/api.ErrNone", "levelhand/api.ErrBound", "levelhand/api.ErrName", "levelhand/api.ErrExist"], apart := false, laid := [("levelhand/api.ErrBound", laid_levelhand_api_ErrBound), ("levelhand/api.ErrName", laid_levelhand_api_ErrName), ("levelhand/api.ErrNone", laid_levelhand_api_ErrNone), ("levelhand/api.ErrExist", laid_levelhand_api_ErrExist)], narrowed := true }
def RivalComesUptoSaid : Prop := rivalComesUptoRow.holds Tryd.pinned (OpenSpec.upto rivalComesSpec)

/-- 'levelhandlaw1.MixNumbers', WHERE WHAT IT READS IS OF BULK AT MOST 1048576: true; the input reads as it did. -/
def mixNumbersUptoRow : OpenClaim := { program := "ytbbbnnooaaelmaadoor", sum := "8d435aee51f328cb45923f255cb68b2f4dc0efeb664945612295426b1f073e6e", func := "levelhand/levelhandlaw1.MixNumbers", spec := "mixNumbers", inPlace := ["internal/reflectlite.ValueOf", "(internal/reflectlite.Value).Type", "(internal/reflectlite.Value).IsNil", "internal/reflectlite.TypeOf", "(internal/reflectlite.Value).Elem", "(internal/reflectlite.Value).Set"], unfollowed := true, recurses := true, named := ["levelhand/api.ErrBound", "levelhand/api.ErrName", "levelhand/api.ErrExist", "levelhand/api.ErrText", "levelhand/api.ErrShape", "levelhand/api.ErrNone", "levelhand/api.ErrFull", "levelhand/api.ErrOld", "levelhand/api.ErrSum", "errors.errorType"], apart := false, laid := [("errors.errorType", laid_errors_errorType), ("levelhand/api.ErrText", laid_levelhand_api_ErrText), ("levelhand/api.ErrBound", laid_levelhand_api_ErrBound), ("levelhand/api.ErrShape", laid_levelhand_api_ErrShape), ("levelhand/api.ErrName", laid_levelhand_api_ErrName), ("levelhand/api.ErrNone", laid_levelhand_api_ErrNone), ("levelhand/api.ErrExist", laid_levelhand_api_ErrExist), ("levelhand/api.ErrFull", laid_levelhand_api_ErrFull), ("levelhand/api.ErrOld", laid_levelhand_api_ErrOld), ("levelhand/api.ErrSum", laid_levelhand_api_ErrSum)], narrowed := true }
def MixNumbersUptoSaid : Prop := mixNumbersUptoRow.holds Tryd.pinned (OpenSpec.upto mixNumbersSpec)

/-- 'levelhandlaw1.RingHosts', WHERE WHAT IT READS IS OF BULK AT MOST 1048576: true; the input reads as it did. -/
def ringHostsUptoRow : OpenClaim := { program := "ytbbbnnooaaelmaadoor", sum := "8d435aee51f328cb45923f255cb68b2f4dc0efeb664945612295426b1f073e6e", func := "levelhand/levelhandlaw1.RingHosts", spec := "ringHosts", inPlace := ["internal/reflectlite.ValueOf", "(internal/reflectlite.Value).Type", "(internal/reflectlite.Value).IsNil", "internal/reflectlite.TypeOf", "(internal/reflectlite.Value).Elem", "(internal/reflectlite.Value).Set"], unfollowed := true, recurses := true, named := ["levelhand/api.ErrNone", "levelhand/api.ErrBound", "levelhand/api.ErrName", "levelhand/api.ErrExist", "levelhand/api.ErrText", "levelhand/api.ErrShape", "levelhand/api.ErrFull", "levelhand/api.ErrOld", "levelhand/api.ErrSum", "errors.errorType"], apart := false, laid := [("errors.errorType", laid_errors_errorType), ("levelhand/api.ErrText", laid_levelhand_api_ErrText), ("levelhand/api.ErrBound", laid_levelhand_api_ErrBound), ("levelhand/api.ErrShape", laid_levelhand_api_ErrShape), ("levelhand/api.ErrName", laid_levelhand_api_ErrName), ("levelhand/api.ErrNone", laid_levelhand_api_ErrNone), ("levelhand/api.ErrExist", laid_levelhand_api_ErrExist), ("levelhand/api.ErrFull", laid_levelhand_api_ErrFull), ("levelhand/api.ErrOld", laid_levelhand_api_ErrOld), ("levelhand/api.ErrSum", laid_levelhand_api_ErrSum)], narrowed := true }
def RingHostsUptoSaid : Prop := ringHostsUptoRow.holds Tryd.pinned (OpenSpec.upto ringHostsSpec)

/-- 'levelhandlaw1.FillPlaces', WHERE WHAT IT READS IS OF BULK AT MOST 1048576: true; the input reads as it did. -/
def fillPlacesUptoRow : OpenClaim := { program := "ytbbbnnooaaelmaadoor", sum := "8d435aee51f328cb45923f255cb68b2f4dc0efeb664945612295426b1f073e6e", func := "levelhand/levelhandlaw1.FillPlaces", spec := "fillPlaces", inPlace := ["internal/reflectlite.ValueOf", "(internal/reflectlite.Value).Type", "(internal/reflectlite.Value).IsNil", "internal/reflectlite.TypeOf", "(internal/reflectlite.Value).Elem", "(internal/reflectlite.Value).Set"], unfollowed := true, recurses := true, named := ["levelhand/api.ErrExist", "levelhand/api.ErrNone", "levelhand/api.ErrBound", "levelhand/api.ErrName", "levelhand/api.ErrText", "levelhand/api.ErrShape", "levelhand/api.ErrFull", "levelhand/api.ErrOld", "levelhand/api.ErrSum", "errors.errorType"], apart := false, laid := [("errors.errorType", laid_errors_errorType), ("levelhand/api.ErrText", laid_levelhand_api_ErrText), ("levelhand/api.ErrBound", laid_levelhand_api_ErrBound), ("levelhand/api.ErrShape", laid_levelhand_api_ErrShape), ("levelhand/api.ErrName", laid_levelhand_api_ErrName), ("levelhand/api.ErrNone", laid_levelhand_api_ErrNone), ("levelhand/api.ErrExist", laid_levelhand_api_ErrExist), ("levelhand/api.ErrFull", laid_levelhand_api_ErrFull), ("levelhand/api.ErrOld", laid_levelhand_api_ErrOld), ("levelhand/api.ErrSum", laid_levelhand_api_ErrSum)], narrowed := true }
def FillPlacesUptoSaid : Prop := fillPlacesUptoRow.holds Tryd.pinned (OpenSpec.upto fillPlacesSpec)

/-- 'levelhandlaw1.TableMakes', WHERE WHAT IT READS IS OF BULK AT MOST 1048576: true; the input reads as it did. -/
def tableMakesUptoRow : OpenClaim := { program := "ytbbbnnooaaelmaadoor", sum := "8d435aee51f328cb45923f255cb68b2f4dc0efeb664945612295426b1f073e6e", func := "levelhand/levelhandlaw1.TableMakes", spec := "tableMakes", inPlace := ["internal/reflectlite.ValueOf", "(internal/reflectlite.Value).Type", "(internal/reflectlite.Value).IsNil", "internal/reflectlite.TypeOf", "(internal/reflectlite.Value).Elem", "(internal/reflectlite.Value).Set"], unfollowed := true, recurses := true, named := ["levelhand/api.ErrNone", "levelhand/api.ErrBound", "levelhand/api.ErrName", "levelhand/api.ErrExist", "levelhand/api.ErrShape", "levelhand/api.ErrText", "levelhand/api.ErrFull", "levelhand/api.ErrOld", "levelhand/api.ErrSum", "errors.errorType"], apart := false, laid := [("errors.errorType", laid_errors_errorType), ("levelhand/api.ErrText", laid_levelhand_api_ErrText), ("levelhand/api.ErrBound", laid_levelhand_api_ErrBound), ("levelhand/api.ErrShape", laid_levelhand_api_ErrShape), ("levelhand/api.ErrName", laid_levelhand_api_ErrName), ("levelhand/api.ErrNone", laid_levelhand_api_ErrNone), ("levelhand/api.ErrExist", laid_levelhand_api_ErrExist), ("levelhand/api.ErrFull", laid_levelhand_api_ErrFull), ("levelhand/api.ErrOld", laid_levelhand_api_ErrOld), ("levelhand/api.ErrSum", laid_levelhand_api_ErrSum)], narrowed := true }
def TableMakesUptoSaid : Prop := tableMakesUptoRow.holds Tryd.pinned (OpenSpec.upto tableMakesSpec)

/-- 'levelhandlaw1.TableCounts', WHERE WHAT IT READS IS OF BULK AT MOST 1048576: true; the input reads as it did. -/
def tableCountsUptoRow : OpenClaim := { program := "ytbbbnnooaaelmaadoor", sum := "8d435aee51f328cb45923f255cb68b2f4dc0efeb664945612295426b1f073e6e", func := "levelhand/levelhandlaw1.TableCounts", spec := "tableCounts", inPlace := ["internal/reflectlite.ValueOf", "(internal/reflectlite.Value).Type", "(internal/reflectlite.Value).IsNil", "internal/reflectlite.TypeOf", "(internal/reflectlite.Value).Elem", "(internal/reflectlite.Value).Set"], unfollowed := true, recurses := true, named := ["levelhand/api.ErrNone", "levelhand/api.ErrBound", "levelhand/api.ErrName", "levelhand/api.ErrExist", "levelhand/api.ErrShape", "levelhand/api.ErrText", "levelhand/api.ErrFull", "levelhand/api.ErrOld", "levelhand/api.ErrSum", "errors.errorType"], apart := false, laid := [("errors.errorType", laid_errors_errorType), ("levelhand/api.ErrText", laid_levelhand_api_ErrText), ("levelhand/api.ErrBound", laid_levelhand_api_ErrBound), ("levelhand/api.ErrShape", laid_levelhand_api_ErrShape), ("levelhand/api.ErrName", laid_levelhand_api_ErrName), ("levelhand/api.ErrNone", laid_levelhand_api_ErrNone), ("levelhand/api.ErrExist", laid_levelhand_api_ErrExist), ("levelhand/api.ErrFull", laid_levelhand_api_ErrFull), ("levelhand/api.ErrOld", laid_levelhand_api_ErrOld), ("levelhand/api.ErrSum", laid_levelhand_api_ErrSum)], narrowed := true }
def TableCountsUptoSaid : Prop := tableCountsUptoRow.holds Tryd.pinned (OpenSpec.upto tableCountsSpec)

/-- 'levelhandlaw1.RivalOrders', WHERE WHAT IT READS IS OF BULK AT MOST 1048576: true; the input reads as it did. -/
def rivalOrdersUptoRow : OpenClaim := { program := "ytbbbnnooaaelmaadoor", sum := "8d435aee51f328cb45923f255cb68b2f4dc0efeb664945612295426b1f073e6e", func := "levelhand/levelhandlaw1.RivalOrders", spec := "rivalOrders", inPlace := ["internal/reflectlite.ValueOf", "(internal/reflectlite.Value).Type", "(internal/reflectlite.Value).IsNil", "internal/reflectlite.TypeOf", "(internal/reflectlite.Value).Elem", "(internal/reflectlite.Value).Set"], unfollowed := true, recurses := true, named := ["levelhand/api.ErrNone", "levelhand/api.ErrBound", "levelhand/api.ErrName", "levelhand/api.ErrExist", "levelhand/api.ErrText", "levelhand/api.ErrShape", "levelhand/api.ErrFull", "levelhand/api.ErrOld", "levelhand/api.ErrSum", "errors.errorType"], apart := false, laid := [("errors.errorType", laid_errors_errorType), ("levelhand/api.ErrText", laid_levelhand_api_ErrText), ("levelhand/api.ErrBound", laid_levelhand_api_ErrBound), ("levelhand/api.ErrShape", laid_levelhand_api_ErrShape), ("levelhand/api.ErrName", laid_levelhand_api_ErrName), ("levelhand/api.ErrNone", laid_levelhand_api_ErrNone), ("levelhand/api.ErrExist", laid_levelhand_api_ErrExist), ("levelhand/api.ErrFull", laid_levelhand_api_ErrFull), ("levelhand/api.ErrOld", laid_levelhand_api_ErrOld), ("levelhand/api.ErrSum", laid_levelhand_api_ErrSum)], narrowed := true }
def RivalOrdersUptoSaid : Prop := rivalOrdersUptoRow.holds Tryd.pinned (OpenSpec.upto rivalOrdersSpec)

end Rows
end Go.Proofs.YtbbbnnooaaelmaaDoor
