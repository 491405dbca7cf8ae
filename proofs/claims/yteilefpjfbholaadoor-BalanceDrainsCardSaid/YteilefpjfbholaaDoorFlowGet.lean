/-
  The walks of package flows: Get, remove (maps.DeleteFunc), Expire, Drop.
-/
import Derived.Test.YteilefpjfbholaaDoorFlowPut
import Derived.Lib.SlMapFilter
import Derived.Laws.IdiomRangeMap
import Derived.Deep.LoopGhost
namespace Go.Proofs.YteilefpjfbholaaDoor
open Go.RowKit Go.Maps

def GetErr (ea : Nat → Addr) (c : Nat) (w : World) (e : Ending) (w' : World) : Prop := e = .returned (.tuple #[.string ⟨#[]⟩, .bool false, errB ea c]) ∧ w = w'
/-- What Get answers at a tick. -/
def getF (L : List Fl) (k : Nat) (now : Int) : Option ByteArray := match findF L k with
  | some x => if x.til ≤ now then none else some x.host
  | none => none
def gotV (o : Option ByteArray) : Value := match o with
  | some s => .tuple #[.string s, .bool true, .nilIface]
  | none => .tuple #[.string ⟨#[]⟩, .bool false, .nilIface]
def GetOk (fp mb time now : Nat) (L : List Fl) (k : Nat) (w : World) (e : Ending) (w' : World) : Prop := e = .returned (gotV (getF L k now)) ∧ FlowsR w' fp mb time now L ∧ Turn [fp] w w'
set_option maxRecDepth 100000 in
set_option maxHeartbeats 2000000 in
theorem get_bad (ea : Nat → Addr) {fp mb time last : Nat} {L : List Fl} (k : Nat) (now : Int) (w : World) (hE : ErrsF ea w) (h : FlowsR w fp mb time last L) (ht : tickE last now ≠ 0) :
    Calls Tryd.prog 15 #[.pointer (some ⟨fp, 0, none⟩), .int .u64 (k : Int), .int .i64 now] w (GetErr ea (tickE last now) w) := by
  have HT := Lib.hid (tick_bad ea now w hE h ht)
  unfold errB at HT
  generalize tickE last now = te at *
  clear hE h ht
  go_enter Tryd.func15, Tryd.ntmps15
  go_wp2_with fail
  refine HT.out.mono ?_
  rintro e w2 ⟨rfl, rfl⟩
  go_wp2
  go_ret3
  exact ⟨rfl, rfl⟩
set_option maxRecDepth 100000 in
set_option maxHeartbeats 2000000 in
theorem get_ok {fp mb time last : Nat} {L : List Fl} (k now : Nat) (w : World) (h : FlowsR w fp mb time last L) (hU : U64 k) (h1 : last ≤ now) (h2 : now ≤ 1099511627776) :
    Calls Tryd.prog 15 #[.pointer (some ⟨fp, 0, none⟩), .int .u64 (k : Int), .int .i64 (now : Int)] w (GetOk fp mb time now L k w) := by
  have HT := Lib.hid (tick_ok now w h h1 h2)
  obtain ⟨y, hy⟩ : ∃ y, (findF L k).getD flZ = y := ⟨_, rfl⟩
  obtain ⟨bs, hbs⟩ : ∃ y, (findF L k).isSome = y := ⟨_, rfl⟩
  have HY := Lib.hid hy
  have HS := Lib.hid hbs
  have hw : (bs = false ∧ getF L k now = none) ∨ (bs = true ∧ decide (y.til ≤ (now : Int)) = true ∧ getF L k now = none) ∨ (bs = true ∧ decide (y.til ≤ (now : Int)) = false ∧ getF L k now = some y.host) := by
    subst hbs
    subst hy
    unfold getF
    cases findF L k with
    | none => exact .inl ⟨rfl, rfl⟩
    | some x =>
      by_cases hx : x.til ≤ (now : Int)
      · exact .inr (.inl ⟨rfl, by simpa using hx, by simp [hx]⟩)
      · exact .inr (.inr ⟨rfl, by simpa using hx, by simp [hx]⟩)
  have HP : Hid (∀ v w', gotV (getF L k now) = v → FlowsR w' fp mb time now L → Turn [fp] w w' → GetOk fp mb time now L k w (.returned v) w') := Lib.hid fun v w' h3 h4 h5 => ⟨by rw [h3], h4, h5⟩
  clear h hy hbs
  generalize getF L k now = gv at *
  rcases hw with ⟨rfl, rfl⟩ | ⟨rfl, t1, rfl⟩ | ⟨rfl, t1, rfl⟩
  all_goals
    go_enter Tryd.func15, Tryd.ntmps15
    go_wp2_with fail
    refine HT.out.mono ?_
    rintro e w2 ⟨rfl, hF, ht⟩
    have c2 := hF.c2
    have hM := hF.map
    have hb := (Below.refl w2.heap.size w2).alloc (Nat.le_refl _) (.cells #[.int .u64 (y.key : Int), .string y.host, .int .i64 y.til] 79)
    have HFin := Lib.hid (hF.below hb)
    have HTin := Lib.hid (ht.thenB hb)
    clear hF ht hb
    go_wp2_with (first
      | (at_lookup; refine wp_fl_look rfl _ _ rfl rfl hM k rfl hU y HY.out _ HS.out ?_)
      | fail)
    go_ret3
    exact HP.out _ _ rfl HFin.out HTin.out
/-! maps.DeleteFunc. -/
def pdOf (p : Fl → Bool) (_ : Lit) : DataW Unit → Bool
  | .agg [.lit (.int _ k), .lit (.string s), .lit (.int _ t)] => p ⟨k.toNat, ⟨s.toArray⟩, t⟩
  | _ => false
theorem pdOf_fl (p : Fl → Bool) (kl : Lit) (x : Fl) : pdOf p kl (flD x) = p x := rfl
def esOf (L : List Fl) : List (Lit × DataW Unit) := L.map fun x => (lk x.key, flD x)
theorem fk_came {p : Fl → Bool} {L : List Fl} {left : Lit → Bool} {k : Nat} {v : Value} {yd : DataW Unit} {yp : List MemPlace} (hv : rFl v = some (yd, yp)) (hat : ∀ zd, (Fk (pdOf p) (esOf L) left).atKey (lk k) zd = yd) : ∃ x, x ∈ L ∧ x.key = k ∧ v = flV x ∧ yd = flD x := by
  have e : Fk (pdOf p) (esOf L) left = flM (L.filter fun x => !p x || left (lk x.key)) := by
    unfold Fk esOf flM
    rw [List.filter_map]
    rfl
  rw [e] at hat
  obtain ⟨x, hx, hk, rfl⟩ := fl_came (y := (yd, yp)) hv hat
  refine ⟨x, (List.mem_filter.1 hx).1, hk, rfl, ?_⟩
  rw [rFl_mk] at hv
  injection hv with hv
  injection hv with hv
  exact hv.symm
theorem esOf_apart {L : List Fl} (h : Rise L) : (esOf L).Pairwise fun p q => p.1 ≠ q.1 := by
  unfold esOf
  rw [List.pairwise_map]
  exact h.imp fun hlt e => by
    have h1 := lk_same
    unfold lk at e
    injection e with _ e
    omega
theorem esOf_keys {L : List Fl} : ∀ p ∈ esOf L, WideAt.IsKeyLit p.1 := by
  intro p hp
  obtain ⟨x, _, rfl⟩ := List.mem_map.1 hp
  trivial
def DelPostF (mb : Nat) (L' : List Fl) (w : World) (e : Ending) (w' : World) : Prop := e = .returned (.tuple #[]) ∧ FlMap w' mb L' ∧ w.grownBy w' (some mb)
end Go.Proofs.YteilefpjfbholaaDoor
