/-
  The walks of package flows: Get, remove (maps.DeleteFunc), Expire, Drop.
-/
import Derived.Test.YtnmkdmehljkedaaGreatDoorFlowPut
import Derived.Lib.SlMapFilter
import Derived.Laws.IdiomRangeMap
import Derived.Deep.LoopGhost
namespace Go.Proofs.YtnmkdmehljkedaaGreatDoor
open Go.RowKit Go.Maps

def GetErr (ea : Nat → Addr) (c : Nat) (w : World) (e : Ending) (w' : World) : Prop := e = .returned (.tuple #[.string ⟨#[]⟩, .bool false, errB ea c]) ∧ w = w'
/-- What Get answers at a tick. -/
def getF (L : List Fl) (k : Nat) (now : Int) : Option ByteArray := match findF L k with
  | some x => if x.til ≤ now then none else some x.host
  | none => none
def gotV (o : Option ByteArray) : Value := match o with
  | some s => .tuple #[.string s, .bool true, .nilIface]
  | none => .tuple #[.string ⟨#[]⟩, .bool false, .nilIface]
def GetOk (fp mb time now : Nat) (L : List Fl) (k : Nat) (w : World) (e : Ending) (w' : World) : Prop := e = .returned (gotV (getF L k now)) ∧ FlowsR w' fp mb time now L ∧ Turn [fp] w w'
set_option maxRecDepth 100000 in
set_option maxHeartbeats 2000000 in
theorem get_bad (ea : Nat → Addr) {fp mb time last : Nat} {L : List Fl} (k : Nat) (now : Int) (w : World) (hE : ErrsF ea w) (h : FlowsR w fp mb time last L) (ht : tickE last now ≠ 0) :
    Calls Tryz.prog 15 #[.pointer (some ⟨fp, 0, none⟩), .int .u64 (k : Int), .int .i64 now] w (GetErr ea (tickE last now) w) := by
  have HT := Lib.hid (tick_bad ea now w hE h ht)
  unfold errB at HT
  generalize tickE last now = te at *
  clear hE h ht
  go_enter Tryz.func15, Tryz.ntmps15
  go_wp2_with fail
  refine HT.out.mono ?_
  rintro e w2 ⟨rfl, rfl⟩
  go_wp2
  go_ret3
  exact ⟨rfl, rfl⟩
set_option maxRecDepth 100000 in
set_option maxHeartbeats 2000000 in
theorem get_ok {fp mb time last : Nat} {L : List Fl} (k now : Nat) (w : World) (h : FlowsR w fp mb time last L) (hU : U64 k) (h1 : last ≤ now) (h2 : now ≤ 1099511627776) :
    Calls Tryz.prog 15 #[.pointer (some ⟨fp, 0, none⟩), .int .u64 (k : Int), .int .i64 (now : Int)] w (GetOk fp mb time now L k w) := by
  have HT := Lib.hid (tick_ok now w h h1 h2)
  obtain ⟨y, hy⟩ : ∃ y, (findF L k).getD flZ = y := ⟨_, rfl⟩
  obtain ⟨bs, hbs⟩ : ∃ y, (findF L k).isSome = y := ⟨_, rfl⟩
  have HY := Lib.hid hy
  have HS := Lib.hid hbs
  have hw : (bs = false ∧ getF L k now = none) ∨ (bs = true ∧ decide (y.til ≤ (now : Int)) = true ∧ getF L k now = none) ∨ (bs = true ∧ decide (y.til ≤ (now : Int)) = false ∧ getF L k now = some y.host) := by
    subst hbs
    subst hy
    unfold getF
    cases findF L k with
    | none => exact .inl ⟨rfl, rfl⟩
    | some x =>
      by_cases hx : x.til ≤ (now : Int)
      · exact .inr (.inl ⟨rfl, by simpa using hx, by simp [hx]⟩)
      · exact .inr (.inr ⟨rfl, by simpa using hx, by simp [hx]⟩)
  have HP : Hid (∀ v w', gotV (getF L k now) = v → FlowsR w' fp mb time now L → Turn [fp] w w' → GetOk fp mb time now L k w (.returned v) w') := Lib.hid fun v w' h3 h4 h5 => ⟨by rw [h3], h4, h5⟩
  clear h hy hbs
  generalize getF L k now = gv at *
  rcases hw with ⟨rfl, rfl⟩ | ⟨rfl, t1, rfl⟩ | ⟨rfl, t1, rfl⟩
  all_goals
    go_enter Tryz.func15, Tryz.ntmps15
    go_wp2_with fail
    refine HT.out.mono ?_
    rintro e w2 ⟨rfl, hF, ht⟩
    have c2 := hF.c2
    have hM := hF.map
    have hb := (Below.refl w2.heap.size w2).alloc (Nat.le_refl _) (.cells #[.int .u64 (y.key : Int), .string y.host, .int .i64 y.til] 80)
    have HFin := Lib.hid (hF.below hb)
    have HTin := Lib.hid (ht.thenB hb)
    clear hF ht hb
    go_wp2_with (first
      | (at_lookup; refine wp_fl_look rfl _ _ rfl rfl hM k rfl hU y HY.out _ HS.out ?_)
      | fail)
    go_ret3
    exact HP.out _ _ rfl HFin.out HTin.out
/-! maps.DeleteFunc. -/
def pdOf (p : Fl → Bool) (_ : Lit) : DataW Unit → Bool
  | .agg [.lit (.int _ k), .lit (.string s), .lit (.int _ t)] => p ⟨k.toNat, ⟨s.toArray⟩, t⟩
  | _ => false
theorem pdOf_fl (p : Fl → Bool) (kl : Lit) (x : Fl) : pdOf p kl (flD x) = p x := rfl
def esOf (L : List Fl) : List (Lit × DataW Unit) := L.map fun x => (lk x.key, flD x)
theorem fk_came {p : Fl → Bool} {L : List Fl} {left : Lit → Bool} {k : Nat} {v : Value} {yd : DataW Unit} {yp : List MemPlace} (hv : rFl v = some (yd, yp)) (hat : ∀ zd, (Fk (pdOf p) (esOf L) left).atKey (lk k) zd = yd) : ∃ x, x ∈ L ∧ x.key = k ∧ v = flV x ∧ yd = flD x := by
  have e : Fk (pdOf p) (esOf L) left = flM (L.filter fun x => !p x || left (lk x.key)) := by
    unfold Fk esOf flM
    rw [List.filter_map]
    rfl
  rw [e] at hat
  obtain ⟨x, hx, hk, rfl⟩ := fl_came (y := (yd, yp)) hv hat
  refine ⟨x, (List.mem_filter.1 hx).1, hk, rfl, ?_⟩
  rw [rFl_mk] at hv
  injection hv with hv
  injection hv with hv
  exact hv.symm
theorem esOf_apart {L : List Fl} (h : Rise L) : (esOf L).Pairwise fun p q => p.1 ≠ q.1 := by
  unfold esOf
  rw [List.pairwise_map]
  exact h.imp fun hlt e => by
    have h1 := lk_same
    unfold lk at e
    injection e with _ e
    omega
theorem esOf_keys {L : List Fl} : ∀ p ∈ esOf L, WideAt.IsKeyLit p.1 := by
  intro p hp
  obtain ⟨x, _, rfl⟩ := List.mem_map.1 hp
  trivial
def DelPostF (mb : Nat) (L' : List Fl) (w : World) (e : Ending) (w' : World) : Prop := e = .returned (.tuple #[]) ∧ FlMap w' mb L' ∧ w.grownBy w' (some mb)
set_option maxRecDepth 100000 in
set_option maxHeartbeats 4000000 in
theorem flDelete_any (p : Fl → Bool) (bx mb : Nat) (L : List Fl) (w : World) (hM : FlMap w mb L)
    (hdel : ∀ W x, w.grownBy W (some mb) → x ∈ L → Calls Tryz.prog 56 #[.int .u64 (x.key : Int), flV x, .pointer (some ⟨bx, 0, none⟩)] W fun e w' => e = .returned (.bool (p x)) ∧ W.grownBy w' none) :
    Calls Tryz.prog 55 #[.map (some mb), .func (.func 56) #[] #[.pointer (some ⟨bx, 0, none⟩)]] w (DelPostF mb (L.filter fun x => !p x) w) := by
  have hr := hM.rise
  have K := int_keyed Tryz.underlying32
  have hown := hM.own
  have hap := Lib.hid (esOf_apart hr)
  have hu := Lib.hid hM.u64
  have HD := Lib.hid hdel
  have HR := Lib.hid hr
  have hkeys := Lib.hid (esOf_keys (L := L))
  have HF : Hid (∀ W left, (∀ kl, left kl = false) → W.ownsMap Tryz.prog 32 rFl mb L.length (Fk (pdOf p) (esOf L) left) → FlMap W mb (L.filter fun x => !p x)) := Lib.hid fun W left hl h => by
    rw [Fk_end hl] at h
    have e : Lib.deleteFuncD (pdOf p) (.map (esOf L)) = flM (L.filter fun x => !p x) := by
      show DataW.map _ = _
      unfold esOf flM
      rw [flM_filter p (pdOf p) (fun x => rfl)]
    rw [e] at h
    exact ⟨ownsMap_tight h, hr.filter _, fun x hx => hM.u64 x (List.mem_filter.1 hx).1⟩
  clear hM hdel
  go_enter Tryz.func55, Tryz.ntmps55
  go_wp2_with (first
    | (at_range; refine wpList_range_own _ rfl _ 76 rfl 32 80 K Tryz.underlying76 rFl mb L.length _ rfl hown ?_; intro w0 hrg0 hg0 hs0)
    | fail)
  go_frame
  go_loopw [4, 5] (fun _ _ wr => ∃ (left : Lit → Bool) (cnt : Nat), wr.ranges Tryz.prog 32 rFl mb w.heap.size L.length (Fk (pdOf p) (esOf L) left) left cnt ∧ w.grownBy wr (some mb))
    (fun _ _ wr => wr.rangeLeft mb w.heap.size)
  case atStart =>
    have e : Fk (pdOf p) (esOf L) (Maps.has (flM L)) = flM L := Fk_start hkeys.out
    exact ⟨Maps.has (flM L), Maps.size (flM L), by rw [e]; exact hrg0, hg0.but _⟩
  case round =>
    obtain ⟨left, cnt, hrg, hgw⟩ := hrel
    go_wp2_with (first
      | (at_next; refine wpList_next_ranges _ rfl _ rfl 32 K rFl id flV (fun key _ _ => ⟨key, rfl⟩) (fun v y hv => by obtain ⟨x, hx, _⟩ := rFl_some hv; exact ⟨x, hx⟩) mb w.heap.size L.length _ _ _ rfl hrg ?_ ?_)
      | fail)
    · intro _ hl0
      go_wp2
      go_end0
      exact ⟨rfl, HF.out _ left hl0 hrg.owns, hgw⟩
    · intro key c kl yd yp w1 cnt1 hkey hlx hv hat hrg1 hlt hg1 hs1 hen
      obtain ⟨kz, rfl, rfl, hwf⟩ := Maps.keyOf_int_inv Tryz.underlying32 hkey
      obtain ⟨k, rfl, hU⟩ := u64_of_wf hwf
      obtain ⟨x, hx, rfl, hcx, hyx⟩ := fk_came hv hat
      have hxc : c = x := by
        have h1 := rFl_mk c
        rw [hcx, rFl_mk] at h1
        exact (flD_inj (by injection h1 with h1; injection h1)).symm
      subst hxc
      have hgw1 := hgw.andThen hg1 (fun j hj => by cases hj; exact Or.inl (Nat.le_refl _))
      have hrgA := hrg1.alloc (.cells #[.int .u64 (c.key : Int), .string c.host, .int .i64 c.til] 80)
      have hgwA : w.grownBy (w1.alloc (.cells #[.int .u64 (c.key : Int), .string c.host, .int .i64 c.til] 80)) (some mb) := hgw1.andThen (World.grownBy_alloc w1 _ none) (fun j hj => by cases hj)
      have hc := HD.out _ c hgwA hx
      have hkl : WideAt.IsKeyLit (lk c.key) := trivial
      have hle := hrg.left_eq
      subst hyx
      unfold flV at hc hen
      cases hp : p c
      · rw [hp] at hc
        have hst := Lib.hid (Fk_stays hap.out hkl hlx ((pdOf_fl p _ c).trans hp) hat)
        have HC := Lib.hid hc
        clear hs1 hkey hv hat hcx hp hc hle
        go_wp2_with fail
        refine HC.out.mono ?_
        rintro e w2 ⟨rfl, hg2⟩
        have hrg2 := hrgA.kept hg2 (by simp) (by simp)
        have hgw2 := hgwA.andThen hg2 (fun j hj => by cases hj)
        have hrg3 := Lib.hid (hst.out ▸ hrg2)
        go_wp2_with fail
        go_roundw
        case rel => exact ⟨_, cnt1, hrg3.out, hgw2⟩
        case measure => rw [hrg2.left_eq, hrg.left_eq]; exact hlt
      · rw [hp] at hc
        have hst := Lib.hid (Fk_struck hap.out hkl hlx ((pdOf_fl p _ c).trans hp) hat)
        have HC := Lib.hid hc
        have hkey2 := hkey
        clear hs1 hkey hv hat hcx hp hc hle
        go_wp2_with fail
        refine HC.out.mono ?_
        rintro e w2 ⟨rfl, hg2⟩
        have hrg2 := hrgA.kept hg2 (by simp) (by simp)
        have hgw2 := hgwA.andThen hg2 (fun j hj => by cases hj)
        go_wp2_with (first
          | (at_delete; refine wpList_delete_ranges _ rfl _ _ 76 32 rfl 80 K Tryz.underlying76 rFl mb w.heap.size L.length _ _ _ rfl hrg2 _ _ rfl hkey2 ?_; intro w3 cnt3 hrg3 hle hturn; go_frame)
          | fail)
        rw [strike_twice] at hrg3
        have hrg4 := Lib.hid (hst.out ▸ hrg3)
        go_roundw
        case rel => exact ⟨_, cnt3, hrg4.out, hgw2.andThen hturn.grown (fun j hj => by cases hj; exact Or.inr rfl)⟩
        case measure => rw [hrg3.left_eq, hrg.left_eq]; omega
end Go.Proofs.YtnmkdmehljkedaaGreatDoor
