/-
  The walks of package flows: remove, Expire, Drop.
-/
import Derived.Test.YtnmkdmehljkedaaGreatDoorFlowGet
namespace Go.Proofs.YtnmkdmehljkedaaGreatDoor
open Go.RowKit Go.Maps

/-- A closure of remove: what it says of each flow, wherever what lay at w stands but for the map mb. -/
def Says (w : World) (mb g : Nat) (cb : Array Value) (p : Fl → Bool) : Prop := ∀ W x, w.grownBy W (some mb) → Calls Tryz.prog g (#[flV x] ++ cb) W fun e w' => e = .returned (.bool (p x)) ∧ Below W.heap.size W w'
set_option maxHeartbeats 1000000 in
theorem remove1_any (g : Nat) (cb : Array Value) (bx : Nat) (b : Bool) (x : Fl) (k : Nat) (W : World) (eg : ∀ args w, (callFunc g args).run Tryz.prog w = .ok (.enter g args) w) (hb : W.cell? ⟨bx, 0, none⟩ = some (.func (.func g) #[] cb)) (hlt : bx < W.heap.size)
    (hcl : ∀ W', Below W.heap.size W W' → Calls Tryz.prog g (#[flV x] ++ cb) W' fun e w' => e = .returned (.bool b) ∧ Below W'.heap.size W' w') :
    Calls Tryz.prog 56 #[.int .u64 (k : Int), flV x, .pointer (some ⟨bx, 0, none⟩)] W fun e w' => e = .returned (.bool b) ∧ Below W.heap.size W w' := by
  have hb1 : Below W.heap.size W (W.alloc (.cells #[.int .u64 (x.key : Int), .string x.host, .int .i64 x.til] 80)) := (Below.refl _ _).alloc (Nat.le_refl _) _
  have hb2 : (W.alloc (.cells #[.int .u64 (x.key : Int), .string x.host, .int .i64 x.til] 80)).cell? ⟨bx, 0, none⟩ = some (.func (.func g) #[] cb) := (hb1.cell (p := ⟨bx, 0, none⟩) hlt).trans hb
  have HC := Lib.hid (hcl _ hb1)
  unfold flV at HC ⊢
  clear hb hcl
  go_enter Tryz.func56, Tryz.ntmps56
  go_wp2_with (first
    | (go_at_fn g; refine HC.out.mono ?_; rintro e w2 ⟨rfl, hbb⟩)
    | fail)
  go_ret
  exact ⟨rfl, below_two hb1 hbb⟩
def RemPost (fp mb time last : Nat) (L : List Fl) (p : Fl → Bool) (w : World) (e : Ending) (w' : World) : Prop := e = .returned (.int .i64 ((L.length - (L.filter fun x => !p x).length : Nat) : Int)) ∧ FlowsR w' fp mb time last (L.filter fun x => !p x) ∧ Turn [mb] w w'
set_option maxRecDepth 100000 in
set_option maxHeartbeats 2000000 in
theorem remove_any {fp mb time last : Nat} {L : List Fl} (g : Nat) (cb : Array Value) (p : Fl → Bool) (w : World) (h : FlowsR w fp mb time last L) (eg : ∀ args w, (callFunc g args).run Tryz.prog w = .ok (.enter g args) w) (hs : Says w mb g cb p) :
    Calls Tryz.prog 36 #[.pointer (some ⟨fp, 0, none⟩), .func (.func g) #[] cb] w (RemPost fp mb time last L p w) := by
  have hb1 : Below w.heap.size w (w.alloc (.cells #[.func (.func g) #[] cb] 86)) := (Below.refl _ _).alloc (Nat.le_refl _) _
  have c2 := (h.below hb1).c2
  have hM := (h.below hb1).map
  have hne := h.ne
  have hle : (L.filter fun x => !p x).length ≤ L.length := List.length_filter_le _ _
  have hl2 := h.len
  have hBx := Blk.new w 86 #[.func (.func g) #[] cb]
  have hmbl := h.map.lt
  have HD := Lib.hid (flDelete_any p w.heap.size mb L (w.alloc (.cells #[.func (.func g) #[] cb] 86)) hM fun W x hW _ => by
    have hBW := hBx.grown hW (by simp; omega)
    refine (remove1_any g cb w.heap.size (p x) x x.key W eg (hBW.cell 0) hBW.lt fun W' hW' => hs W' x ?_).mono fun e w' ⟨h1, h2⟩ => ⟨h1, only_of_below h2 _⟩
    have h1 : w.grownBy W (some mb) := (World.grownBy.but (World.grownBy_alloc w _ none) (some mb)).andThen hW (fun j hj => by cases hj; exact .inr rfl)
    exact h1.andThen (only_of_below hW' none) (fun j hj => by cases hj))
  unfold DelPostF at HD
  have HF : Hid (∀ W, FlMap W mb (L.filter fun x => !p x) → (w.alloc (.cells #[.func (.func g) #[] cb] 86)).grownBy W (some mb) → FlowsR W fp mb time last (L.filter fun x => !p x) ∧ Turn [mb] w W) := Lib.hid fun W h1 hg => by
    have ht : Turn [mb] w W := (Turn.of_below hb1).then (Turn.of_grown hg fun j e => by cases e; simp)
    exact ⟨⟨ht.blk h.blk (by simpa using hne), h1, Nat.le_trans hle h.len, h.time, h.last⟩, ht⟩
  have HI := Lib.hid h
  generalize hL' : (L.filter fun x => !p x) = L' at *
  have hsub : IntKind.i64.wrap ((L.length : Int) - (L'.length : Int)) = ((L.length - L'.length : Nat) : Int) := by rw [IntWalk.i64_in _ (by omega)]; omega
  have HP : Hid (∀ v w', v = .int .i64 ((L.length - L'.length : Nat) : Int) → FlowsR w' fp mb time last L' → Turn [mb] w w' → RemPost fp mb time last L p w (.returned v) w') := Lib.hid fun v w' h1 h2 h3 => ⟨by rw [h1, hL'], by rw [hL']; exact h2, h3⟩
  clear h hL' hs hBx
  go_enter Tryz.func36, Tryz.ntmps36
  go_wp2_with (first
    | (at_len; refine wp_fl_len rfl _ rfl rfl hM ?_)
    | fail)
  refine HD.out.mono ?_
  rintro e w2 ⟨rfl, hM2, hg2⟩
  obtain ⟨hR, hT⟩ := HF.out _ hM2 hg2
  have c22 := hR.c2
  have HR := Lib.hid hR
  clear hR hg2
  go_wp2_with (first
    | (at_len; refine wp_fl_len rfl _ rfl rfl hM2 ?_)
    | fail)
  go_ret
  exact HP.out _ _ rfl HR.out hT
theorem drop1_any (s : ByteArray) (hb : Nat) (x : Fl) (W : World) (h : W.cell? ⟨hb, 0, none⟩ = some (.string s)) (hlt : hb < W.heap.size) :
    Calls Tryz.prog 37 #[flV x, .pointer (some ⟨hb, 0, none⟩)] W fun e w' => e = .returned (.bool (decide (x.host = s))) ∧ Below W.heap.size W w' := by
  have hb1 : Below W.heap.size W (W.alloc (.cells #[.int .u64 (x.key : Int), .string x.host, .int .i64 x.til] 80)) := (Below.refl _ _).alloc (Nat.le_refl _) _
  have hb2 : (W.alloc (.cells #[.int .u64 (x.key : Int), .string x.host, .int .i64 x.til] 80)).cell? ⟨hb, 0, none⟩ = some (.string s) := (hb1.cell (p := ⟨hb, 0, none⟩) hlt).trans h
  have HE := Lib.hid (str_eq x.host s)
  unfold flV
  clear h
  go_enter Tryz.func37, Tryz.ntmps37
  go_wp2
  go_ret
  exact ⟨ret_bool HE.out, hb1⟩
def DropPost (fp mb time last : Nat) (L : List Fl) (s : ByteArray) (w : World) (e : Ending) (w' : World) : Prop := e = .returned (.int .i64 ((L.length - (L.filter fun x => !decide (x.host = s)).length : Nat) : Int)) ∧ FlowsR w' fp mb time last (L.filter fun x => !decide (x.host = s)) ∧ Turn [mb] w w'
set_option maxHeartbeats 1000000 in
theorem drop_any {fp mb time last : Nat} {L : List Fl} (s : ByteArray) (w : World) (h : FlowsR w fp mb time last L) :
    Calls Tryz.prog 20 #[.pointer (some ⟨fp, 0, none⟩), .string s] w (DropPost fp mb time last L s w) := by
  have hb1 : Below w.heap.size w (w.alloc (.cells #[.string s] 9)) := (Below.refl _ _).alloc (Nat.le_refl _) _
  have hBs := Blk.new w 9 #[.string s]
  have hmb := h.map.lt
  have HR := Lib.hid (remove_any 37 #[.pointer (some ⟨w.heap.size, 0, none⟩)] (fun x => decide (x.host = s)) (w.alloc (.cells #[.string s] 9)) (h.below hb1) (enters_of Tryz.func37 (by kernel_rfl) rfl) fun W x hW => by
    have hB := hBs.grown hW (by simp; omega)
    exact drop1_any s w.heap.size x W (hB.cell 0) hB.lt)
  unfold RemPost at HR
  have HP : Hid (∀ v w', v = .int .i64 ((L.length - (L.filter fun x => !decide (x.host = s)).length : Nat) : Int) → FlowsR w' fp mb time last (L.filter fun x => !decide (x.host = s)) → Turn [mb] w w' → DropPost fp mb time last L s w (.returned v) w') := Lib.hid fun v w' h1 h2 h3 => ⟨by rw [h1], h2, h3⟩
  clear h hBs
  generalize (L.filter fun x => !decide (x.host = s)) = L' at *
  go_enter Tryz.func20, Tryz.ntmps20
  go_wp2_with fail
  refine HR.out.mono ?_
  rintro e w2 ⟨rfl, hF, ht⟩
  have HF := Lib.hid hF
  have HT := Lib.hid ((Turn.of_below hb1).then ht : Turn [mb] w w2)
  clear hF ht
  go_wp2
  go_ret
  exact HP.out _ _ rfl HF.out HT.out
def ExpErr (ea : Nat → Addr) (c : Nat) (w : World) (e : Ending) (w' : World) : Prop := e = .returned (.tuple #[.int .i64 0, errB ea c]) ∧ Below w.heap.size w w'
def ExpPost (fp mb time now : Nat) (L : List Fl) (w : World) (e : Ending) (w' : World) : Prop := e = .returned (.tuple #[.int .i64 ((L.length - (L.filter fun x => !decide (x.til ≤ (now : Int))).length : Nat) : Int), .nilIface]) ∧ FlowsR w' fp mb time now (L.filter fun x => !decide (x.til ≤ (now : Int))) ∧ Turn [fp, mb] w w'
end Go.Proofs.YtnmkdmehljkedaaGreatDoor
