/-
  What a row that lists errors.errorType gives: the variable's cell; with all nine errors: what Code asks.
-/
import Derived.Test.YteilefpjfbholaaGreatDoorCode
import Derived.LaidSub
namespace Go.Proofs.YteilefpjfbholaaGreatDoor
open Go.RowKit

theorem h_et : Tryz.prog.globalNamed "errors.errorType" = some 9 := by kernel_rfl
theorem h_rt : (Tryz.prog.cutTypes.find? (·.1 == "internal/reflectlite.rtype")).map (·.2) = some 260 := by kernel_rfl
theorem h_one : ((List.range Tryz.prog.types.size).filter fun t => Tryz.prog.rowNamed t [101, 114, 114, 111, 114]) = [27] := by kernel_rfl
theorem handle_of {W : World} {l : List (String × DataW Unit)} (h : laidMetH Tryz.prog l W) (hm : ("errors.errorType", Rows.laid_errors_errorType) ∈ l) : HandleAt W := by
  have h' := (laidMetH_iff.1 h).2
  obtain ⟨name, u, ty, e1, e2, e3, e4, e5⟩ := h' _ (List.mem_filter.2 ⟨hm, rfl⟩)
  have en : name = [101, 114, 114, 111, 114] := (Option.some.inj e1).symm
  subst en
  obtain rfl := Option.some.inj (h_rt.symm.trans e2)
  have hm2 : ty ∈ (List.range Tryz.prog.types.size).filter fun t => Tryz.prog.rowNamed t [101, 114, 114, 111, 114] := List.mem_filter.2 ⟨List.mem_range.2 e3, e4⟩
  rw [h_one] at hm2
  obtain rfl := List.mem_singleton.1 hm2
  have hh : typeHandle Tryz.prog 27 = .pointer (some ⟨18, 27, none⟩) := by kernel_rfl
  rw [hh] at e5
  have := World.var?_cell h_et e5 0
  exact this
theorem laid_of_handle {W : World} {l : List (String × DataW Unit)} (h : laidMetH Tryz.prog l W) : laidMet Tryz.prog (l.filter fun x => x.2.handleName?.isNone) W := (laidMetH_iff.1 h).1
def all9 : List Nat := [gv 1, gv 2, gv 3, gv 4, gv 5, gv 6, gv 7, gv 8, gv 9]
theorem errsW_of {W : World} {ea : Nat → Addr} (h : ErrsAt W ea all9) : ErrsW ea W := by
  have hm : ∀ c, 1 ≤ c → c ≤ 9 → gv c ∈ all9 := by
    intro c h1 h2
    match c, h1, h2 with
    | 1, _, _ => decide
    | 2, _, _ => decide
    | 3, _, _ => decide
    | 4, _, _ => decide
    | 5, _, _ => decide
    | 6, _, _ => decide
    | 7, _, _ => decide
    | 8, _, _ => decide
    | 9, _, _ => decide
  refine ⟨fun c h1 h2 => h.at_ _ (hm c h1 h2), fun c d h1 h2 h3 h4 hne => h.ne _ (hm c h1 h2) _ (hm d h3 h4) ?_⟩
  match c, h1, h2 with
  | 1, _, _ => (match d, h3, h4 with | 2, _, _ => decide | 3, _, _ => decide | 4, _, _ => decide | 5, _, _ => decide | 6, _, _ => decide | 7, _, _ => decide | 8, _, _ => decide | 9, _, _ => decide | 1, _, _ => exact absurd rfl hne)
  | 2, _, _ => (match d, h3, h4 with | 1, _, _ => decide | 3, _, _ => decide | 4, _, _ => decide | 5, _, _ => decide | 6, _, _ => decide | 7, _, _ => decide | 8, _, _ => decide | 9, _, _ => decide | 2, _, _ => exact absurd rfl hne)
  | 3, _, _ => (match d, h3, h4 with | 1, _, _ => decide | 2, _, _ => decide | 4, _, _ => decide | 5, _, _ => decide | 6, _, _ => decide | 7, _, _ => decide | 8, _, _ => decide | 9, _, _ => decide | 3, _, _ => exact absurd rfl hne)
  | 4, _, _ => (match d, h3, h4 with | 1, _, _ => decide | 2, _, _ => decide | 3, _, _ => decide | 5, _, _ => decide | 6, _, _ => decide | 7, _, _ => decide | 8, _, _ => decide | 9, _, _ => decide | 4, _, _ => exact absurd rfl hne)
  | 5, _, _ => (match d, h3, h4 with | 1, _, _ => decide | 2, _, _ => decide | 3, _, _ => decide | 4, _, _ => decide | 6, _, _ => decide | 7, _, _ => decide | 8, _, _ => decide | 9, _, _ => decide | 5, _, _ => exact absurd rfl hne)
  | 6, _, _ => (match d, h3, h4 with | 1, _, _ => decide | 2, _, _ => decide | 3, _, _ => decide | 4, _, _ => decide | 5, _, _ => decide | 7, _, _ => decide | 8, _, _ => decide | 9, _, _ => decide | 6, _, _ => exact absurd rfl hne)
  | 7, _, _ => (match d, h3, h4 with | 1, _, _ => decide | 2, _, _ => decide | 3, _, _ => decide | 4, _, _ => decide | 5, _, _ => decide | 6, _, _ => decide | 8, _, _ => decide | 9, _, _ => decide | 7, _, _ => exact absurd rfl hne)
  | 8, _, _ => (match d, h3, h4 with | 1, _, _ => decide | 2, _, _ => decide | 3, _, _ => decide | 4, _, _ => decide | 5, _, _ => decide | 6, _, _ => decide | 7, _, _ => decide | 9, _, _ => decide | 8, _, _ => exact absurd rfl hne)
  | 9, _, _ => (match d, h3, h4 with | 1, _, _ => decide | 2, _, _ => decide | 3, _, _ => decide | 4, _, _ => decide | 5, _, _ => decide | 6, _, _ => decide | 7, _, _ => decide | 8, _, _ => decide | 9, _, _ => exact absurd rfl hne)
end Go.Proofs.YteilefpjfbholaaGreatDoor
