/-
  errors.Is between the errors of package api.
-/
import Derived.Test.YteilefpjfbholaaGreatDoorAs
import Derived.Test.YteilefpjfbholaaGreatDoorLists
namespace Go.Proofs.YteilefpjfbholaaGreatDoor
open Go.RowKit Go.Extern.Stop Go.Stop Go.Extern

theorem is_methodComparable (h : Value) (w : World) : (Go.method 462 260 (.agg #[h]) "Comparable").run Tryz.prog w = .ok (285, .agg #[h]) w := by kernel_rfl
theorem is_comparableS (w : World) : (ReflectliteType.method (fun t => do Rtype.noPackHeld "Comparable" t; (fun a : TypeInfo => Value.bool a.comparable) <$> typeInfo t) #[.agg #[.pointer (some ⟨18, 330, none⟩)]]).run Tryz.prog w = .ok (.bool true) w := by kernel_rfl
theorem is_noIs (v : Value) (w : World) : (Instr.typeAssert (.iface 330 v) 27 271 true).run Tryz.prog w = .ok (.tuple #[.nilIface, .bool false]) w := run_typeAssert_lacksB Tryz.underlying271 (by kernel_rfl) (by kernel_rfl) v 27 w
theorem is_noIsF (v : Value) (w : World) : (Instr.typeAssert (.iface 175 v) 27 271 true).run Tryz.prog w = .ok (.tuple #[.nilIface, .bool false]) w := run_typeAssert_lacksB Tryz.underlying271 (by kernel_rfl) (by kernel_rfl) v 27 w
theorem is_hasUnwrapF (v : Value) (w : World) : (Instr.typeAssert (.iface 175 v) 27 267 true).run Tryz.prog w = .ok (.tuple #[.iface 175 v, .bool true]) w := run_typeAssert_hasB Tryz.underlying267 (by kernel_rfl) v 27 w
theorem is_methodUnwrap (a : Addr) (w : World) : (Go.method 462 175 (.pointer (some a)) "Unwrap").run Tryz.prog w = .ok (279, .pointer (some a)) w := by kernel_rfl

/-- Two errors of errors.New's make are one, or they are not. -/
theorem eq_sent (b c : Addr) (w : World) (h : b ≠ c → (∃ x t, w.heap[b.block]? = some (.cells x t (0, 0))) ∧ ∃ x t, w.heap[c.block]? = some (.cells x t (0, 0))) :
    (binOp .eql 27 (.iface 330 (.pointer (some b))) (.iface 330 (.pointer (some c)))).run Tryz.prog w = .ok (.bool (decide (b = c))) w := by
  have hi : (Tryz.prog.info? 330).map (fun i => i.comparable) = some true := by kernel_rfl
  have hj : (Tryz.prog.info? 332).map (fun i => decide (i.size ≠ 0)) = some true := by kernel_rfl
  obtain ⟨i, hi1, hi2⟩ := Option.map_eq_some_iff.1 hi
  obtain ⟨j, hj1, hj2⟩ := Option.map_eq_some_iff.1 hj
  by_cases e : b = c
  · subst e
    rw [decide_eq_true rfl]
    exact run_eql_iface_ptr_same w b Tryz.underlying27 Tryz.underlying330 hi1 hi2 hj1
  · rw [decide_eq_false e]
    obtain ⟨⟨x, t, h1⟩, ⟨x', t', h2⟩⟩ := h e
    exact run_eql_iface_ptr_other w Tryz.underlying27 Tryz.underlying330 hi1 hi2 hj1 (of_decide_eq_true hj2) e h1 h2

set_option maxRecDepth 100000 in
set_option maxHeartbeats 1000000 in
theorem isLoop_sent (b c : Addr) (r : Bool) (w : World) (he : (binOp .eql 27 (.iface 330 (.pointer (some b))) (.iface 330 (.pointer (some c)))).run Tryz.prog w = .ok (.bool r) w) :
    Calls Tryz.prog 142 #[.iface 330 (.pointer (some b)), .iface 330 (.pointer (some c)), .bool true] w fun e w' => e = .returned (.bool r) ∧ w = w' := by
  have n1 := fun v W => is_noIs v W
  have n2 := fun v W => as_noUnwrap v W
  have n3 := fun v W => as_noUnwraps v W
  cases r
  all_goals
    go_enter Tryz.func142, Tryz.ntmps142
    go_wp2_with fail
    refine wp_loop_rounds 1 ?_
    rw [rounds_succ]
    go_wp2
    go_ret
    exact ⟨rfl, rfl⟩

theorem is_nilAhead (a : Addr) (w : World) : (nilAhead 462 175 (.pointer (some a)) "Unwrap").run Tryz.prog w = .ok (some false) w := by kernel_rfl
set_option maxRecDepth 100000 in
set_option maxHeartbeats 1000000 in
theorem isLoop_fault (f : Nat) (i : Int) (b c : Addr) (r : Bool) (w : World) (hF : Blk w f 177 #[.int .i64 i, .iface 330 (.pointer (some b))])
    (he : (binOp .eql 27 (.iface 330 (.pointer (some b))) (.iface 330 (.pointer (some c)))).run Tryz.prog w = .ok (.bool r) w) :
    Calls Tryz.prog 142 #[.iface 175 (.pointer (some ⟨f, 0, none⟩)), .iface 330 (.pointer (some c)), .bool true] w fun e w' => e = .returned (.bool r) ∧ w = w' := by
  have n1 := fun v W => is_noIs v W
  have n2 := fun v W => as_noUnwrap v W
  have n3 := fun v W => as_noUnwraps v W
  have m1 := fun v W => is_noIsF v W
  have m2 := fun v W => is_hasUnwrapF v W
  have m3 := fun a W => is_methodUnwrap a W
  have m4 := fun a W => is_nilAhead a W
  have m5 : ∀ W : World, (binOp .eql 27 (.iface 175 (.pointer (some ⟨f, 0, none⟩))) (.iface 330 (.pointer (some c)))).run Tryz.prog W = .ok (.bool false) W := fun W => run_eql_iface_types _ _ _ _ Tryz.underlying27 (by decide) W
  have c1 : w.cell? ⟨f, 1, none⟩ = some (.iface 330 (.pointer (some b))) := hF.cell 1
  clear hF
  cases r
  all_goals
    go_enter Tryz.func142, Tryz.ntmps142
    go_wp2_with fail
    refine wp_loop_rounds 2 ?_
    rw [rounds_succ]
    go_wp2
    rw [rounds_succ]
    go_wp2
    go_ret
    exact ⟨rfl, rfl⟩

set_option maxRecDepth 100000 in
set_option maxHeartbeats 1000000 in
theorem is_any (t : TypeId) (a c : Addr) (r : Bool) (w : World) (HL : Hid (Calls Tryz.prog 142 #[.iface t (.pointer (some a)), .iface 330 (.pointer (some c)), .bool true] w fun e w' => e = .returned (.bool r) ∧ w = w')) :
    Calls Tryz.prog 99 #[.iface t (.pointer (some a)), .iface 330 (.pointer (some c))] w fun e w' => e = .returned (.bool r) ∧ w = w' := by
  have h10 := @run_callFunc_extern Tryz.prog 141 _ ReflectliteType.typeOf Tryz.func141 (by kernel_rfl) (by kernel_rfl) (by kernel_rfl) (by kernel_rfl)
  have hC := @run_callFunc_extern Tryz.prog 285 _ (ReflectliteType.method fun t => do Rtype.noPackHeld "Comparable" t; pure (.bool (← typeInfo t).comparable)) Tryz.func285 (by kernel_rfl) (by kernel_rfl) (by kernel_rfl) (by kernel_rfl)
  have tO := as_typeOfS
  have mC := is_methodComparable
  have cC := is_comparableS
  go_enter Tryz.func99, Tryz.ntmps99
  go_wp2_with (go_at_call 142; refine HL.out.mono ?_; rintro e w1 ⟨rfl, rfl⟩)
  go_ret
  exact ⟨rfl, rfl⟩

/-- errors.Is of an error with a number, and another number's. -/
structure ErrsW (ea : Nat → Addr) (w : World) : Prop where
  row : ∀ c, 1 ≤ c → c ≤ 9 → SentAt w (gv c, ea (gv c))
  ne : ∀ c d, 1 ≤ c → c ≤ 9 → 1 ≤ d → d ≤ 9 → c ≠ d → ea (gv c) ≠ ea (gv d)
theorem ErrsW.below {ea : Nat → Addr} {w w' : World} (h : ErrsW ea w) (hb : Below w.heap.size w w') : ErrsW ea w' := ⟨fun c h1 h2 => (h.row c h1 h2).below hb, h.ne⟩
theorem is_code {ea : Nat → Addr} {w : World} {f : Flt} {t : TypeId} {a : Addr} (hE : ErrsW ea w) (hI : IsErr ea w f t a) (h1 : 1 ≤ f.code) (h2 : f.code ≤ 9) (c : Nat) (h3 : 1 ≤ c) (h4 : c ≤ 9) :
    Calls Tryz.prog 99 #[.iface t (.pointer (some a)), .iface 330 (.pointer (some (ea (gv c))))] w fun e w' => e = .returned (.bool (decide (f.code = c))) ∧ w = w' := by
  have hdec : decide (ea (gv f.code) = ea (gv c)) = decide (f.code = c) := by
    by_cases h : f.code = c
    · rw [h]; simp
    · rw [decide_eq_false h, decide_eq_false (hE.ne _ _ h1 h2 h3 h4 h)]
  have heq := eq_sent (ea (gv f.code)) (ea (gv c)) w (fun _ => ⟨(hE.row _ h1 h2).2.2.1, (hE.row _ h3 h4).2.2.1⟩)
  rw [hdec] at heq
  unfold IsErr at hI
  split at hI
  · obtain ⟨rfl, rfl⟩ := hI
    exact is_any _ _ _ _ w (Lib.hid (isLoop_sent _ _ _ w heq))
  · obtain ⟨rfl, b, rfl, hB⟩ := hI
    exact is_any _ _ _ _ w (Lib.hid (isLoop_fault b _ _ _ _ w hB heq))
end Go.Proofs.YteilefpjfbholaaGreatDoor
