/-
  Flows that are added, in plain words.
  The walk of the reference's Add.
  The walk of the reference's Add where every host has a name.
  The walk of Add's closure: has a flow's host no name?
  The walk of slices.IndexFunc at flows with Add's closure.
  The walk of the program's Add at a tick that is none.
  The walk of the program's Add where a host has no name.
  The walk of the program's Add where every host has a name.
-/
import Derived.Test.YteilefpjfbholaaGreatDoorFlows
import Derived.Test.YteilefpjfbholaaGreatDoorFlowPlain
import Derived.Test.YteilefpjfbholaaGreatDoorRefFlows
import Derived.Test.YteilefpjfbholaaGreatDoorRefFault
import Derived.Deep.RegionHeld3
namespace Go.Proofs.YteilefpjfbholaaGreatDoor
open Go.RowKit

/-- May a flow be added? -/
def addOk (now : Int) (L : List Fl) (x : Fl) : Bool := (findF L x.key).isNone && (decide (now < x.til) && (decide (x.til ≤ now + 1000) && decide (L.length < 200)))
def add1 (now : Int) (L : List Fl) (x : Fl) : List Fl := if addOk now L x = true then insF x L else L
def addF (now : Int) (L : List Fl) (xs : List Fl) : List Fl := xs.foldl (add1 now) L
/-- Where the first host without a name is. -/
def badAt (xs : List Fl) : Option Nat := xs.findIdx? fun x => !isName x.host
section
variable {now : Int} {L xs : List Fl} {x : Fl}
theorem addOk_parts : addOk now L x = true ↔ findF L x.key = none ∧ now < x.til ∧ x.til ≤ now + 1000 ∧ L.length < 200 := by
  simp [addOk]
theorem Rise.add1 (h : Rise L) (x : Fl) : Rise (add1 now L x) := by
  unfold Go.Proofs.YteilefpjfbholaaGreatDoor.add1
  split
  · rename_i h1
    exact h.ins (findF_none (addOk_parts.1 h1).1)
  · exact h
theorem add1_len (h : L.length ≤ 200) (x : Fl) : (add1 now L x).length ≤ 200 ∧ L.length ≤ (add1 now L x).length := by
  unfold add1
  split
  · rename_i h1
    have := (addOk_parts.1 h1).2.2.2
    rw [insF_length]
    omega
  · omega
theorem addF_take (k : Nat) (hk : k < xs.length) : addF now L (xs.take (k + 1)) = add1 now (addF now L (xs.take k)) xs[k] := by
  unfold addF
  rw [List.take_succ_eq_append_getElem hk, List.foldl_append]
  rfl
theorem addF_rise (h : Rise L) : Rise (addF now L xs) := by
  induction xs generalizing L with
  | nil => exact h
  | cons x r ih => exact ih (h.add1 x)
theorem addF_len (h : L.length ≤ 200) : (addF now L xs).length ≤ 200 ∧ L.length ≤ (addF now L xs).length := by
  induction xs generalizing L with
  | nil => exact ⟨h, Nat.le_refl _⟩
  | cons x r ih =>
    obtain ⟨h1, h2⟩ := add1_len (now := now) h x
    obtain ⟨h3, h4⟩ := ih h1
    exact ⟨h3, Nat.le_trans h2 h4⟩
theorem badAt_hit {i : Nat} (hi : i < xs.length) (h : isName xs[i].host = false) (hall : ∀ j (hj : j < xs.length), j < i → isName xs[j].host = true) : badAt xs = some i := by
  unfold badAt
  rw [List.findIdx?_eq_some_iff_getElem]
  exact ⟨hi, by simpa using h, fun j hj => by simpa using hall j (by omega) hj⟩
theorem badAt_none (hall : ∀ j (hj : j < xs.length), isName xs[j].host = true) : badAt xs = none := by
  unfold badAt
  rw [List.findIdx?_eq_none_iff]
  intro x hx
  obtain ⟨j, hj, rfl⟩ := List.getElem_of_mem hx
  simpa using hall j hj
end
end Go.Proofs.YteilefpjfbholaaGreatDoor

namespace Go.Proofs.YteilefpjfbholaaGreatDoor
open Go.RowKit

end Go.Proofs.YteilefpjfbholaaGreatDoor

namespace Go.Proofs.YteilefpjfbholaaGreatDoor
open Go.RowKit

def RefAdded (B mp time now : Nat) (L xs : List Fl) (w : World) (e : Ending) (w' : World) : Prop := e = .returned (.tuple #[.int .i64 (((addF now L xs).length - L.length : Nat) : Int), .agg #[.int .i64 0, .int .i64 (-1)]]) ∧ ∃ sv', RFs w' B mp time now (addF now L xs) sv' ∧ Turn [mp] w w'
theorem add_way {now : Nat} {L1 : List Fl} {x : Fl} :
    ((∃ j : Nat, posF L1 x.key = (j : Int)) ∧ add1 now L1 x = L1) ∨
    (posF L1 x.key = -1 ∧ decide (x.til ≤ (now : Int)) = true ∧ add1 now L1 x = L1) ∨
    (posF L1 x.key = -1 ∧ decide (x.til ≤ (now : Int)) = false ∧ decide (x.til - (now : Int) > 1000) = true ∧ add1 now L1 x = L1) ∨
    (posF L1 x.key = -1 ∧ decide (x.til ≤ (now : Int)) = false ∧ decide (x.til - (now : Int) > 1000) = false ∧ 200 ≤ L1.length ∧ add1 now L1 x = L1) ∨
    (posF L1 x.key = -1 ∧ decide (x.til ≤ (now : Int)) = false ∧ decide (x.til - (now : Int) > 1000) = false ∧ ¬ 200 ≤ L1.length ∧ findF L1 x.key = none ∧ add1 now L1 x = insF x L1) := by
  have hno : ¬ addOk now L1 x = true → add1 now L1 x = L1 := fun h => by unfold add1; rw [if_neg h]
  rcases posF_cases (L := L1) x.key with ⟨i, hi, h1, h2⟩ | ⟨h1, h2⟩
  · refine .inl ⟨⟨i, h1⟩, hno fun h => ?_⟩
    exact findF_none (addOk_parts.1 h).1 _ (List.getElem_mem hi) h2
  · simp only [decide_eq_true_eq, decide_eq_false_iff_not]
    by_cases h3 : x.til ≤ (now : Int)
    · exact .inr (.inl ⟨h1, h3, hno fun h => by have := (addOk_parts.1 h).2.1; omega⟩)
    · by_cases h4 : x.til - (now : Int) > 1000
      · exact .inr (.inr (.inl ⟨h1, h3, h4, hno fun h => by have := (addOk_parts.1 h).2.2.1; omega⟩))
      · by_cases h5 : 200 ≤ L1.length
        · exact .inr (.inr (.inr (.inl ⟨h1, h3, h4, h5, hno fun h => by have := (addOk_parts.1 h).2.2.2; omega⟩)))
        · refine .inr (.inr (.inr (.inr ⟨h1, h3, h4, h5, h2, ?_⟩)))
          unfold add1
          rw [if_pos (addOk_parts.2 ⟨h2, by omega, by omega, by omega⟩)]
end Go.Proofs.YteilefpjfbholaaGreatDoor

namespace Go.Proofs.YteilefpjfbholaaGreatDoor
open Go.RowKit

set_option maxHeartbeats 2000000 in
theorem addOne_any (x : Fl) (W : World) (hs : x.host.size ≤ maxLen) :
    Calls Tryz.prog 97 #[flV x] W fun e w' => e = .returned (.bool (!isName x.host)) ∧ Below W.heap.size W w' := by
  have hb1 : Below W.heap.size W (W.alloc (.cells #[.int .u64 (x.key : Int), .string x.host, .int .i64 x.til] 43)) := (Below.refl _ _).alloc (Nat.le_refl _) _
  have HN := Lib.hid (fun w => fl_name x.host hs _ rfl w)
  unfold flV
  generalize isName x.host = b at *
  go_enter Tryz.func97, Tryz.ntmps97
  go_wp2_with fail
  refine (HN.out _).mono ?_
  rintro e w1 ⟨rfl, hb2⟩
  have hb3 := hb1.trans (hb2.mono hb1.size)
  clear hb1 hb2
  go_wp2
  go_ret
  exact ⟨rfl, hb3⟩
end Go.Proofs.YteilefpjfbholaaGreatDoor

namespace Go.Proofs.YteilefpjfbholaaGreatDoor
open Go.RowKit

def badI (xs : List Fl) : Int := match badAt xs with | some i => (i : Int) | none => -1
def IdxBad (xs : List Fl) (w : World) (e : Ending) (w' : World) : Prop := e = .returned (.int .i64 (badI xs)) ∧ Below w.heap.size w w'
set_option maxRecDepth 100000 in
set_option maxHeartbeats 2000000 in
theorem indexFlows_any (A : Option Addr) (cap B : Nat) (xs : List Fl) (w : World) (hx : Reads w B 3 A xs.length (flsC xs)) (hB : B ≤ w.heap.size) (hA : 0 < xs.length → ∃ g, A = some ⟨g, 0, none⟩) (hl : xs.length ≤ 1000) (hs : ∀ x ∈ xs, x.host.size ≤ maxLen) :
    Calls Tryz.prog 96 #[.slice A xs.length cap, .func (.func 97) #[] #[]] w (IdxBad xs w) := by
  have HX := Lib.hid (fun W (hW : Below w.heap.size w W) => hx.below (hW.mono hB))
  have HA := Lib.hid hA
  have HC := Lib.hid (fun x (hx : x ∈ xs) W => addOne_any x W (hs x hx))
  have HH : Hid (∀ i (hi : i < xs.length) W, isName xs[i].host = false → (∀ j (hj : j < xs.length), j < i → isName xs[j].host = true) → Below w.heap.size w W → IdxBad xs w (.returned (.int .i64 (i : Int))) W) := Lib.hid fun i hi W h1 h2 h3 => ⟨by unfold badI; rw [badAt_hit hi h1 h2], h3⟩
  have HM : Hid (∀ W, (∀ j (hj : j < xs.length), isName xs[j].host = true) → Below w.heap.size w W → IdxBad xs w (.returned (.int .i64 (-1))) W) := Lib.hid fun W h2 h3 => ⟨by unfold badI; rw [badAt_none h2], h3⟩
  clear hx hA hs
  go_enter Tryz.func96, Tryz.ntmps96
  go_wp2
  go_loopw [5, 8] (fun _ iv wi => ∃ i : Nat, i ≤ xs.length ∧ iv = .int .i64 (i : Int) ∧ Hid (∀ j (hj : j < xs.length), j < i → isName xs[j].host = true) ∧ Hid (Below w.heap.size w wi)) (fun _ iv _ => xs.length + 1 - (intOf iv).toNat)
  case atStart => exact ⟨0, Nat.zero_le _, rfl, Lib.hid fun j _ h => absurd h (by omega), Lib.hid (Below.refl _ _)⟩
  case round =>
    obtain ⟨i, hi, rfl, hall, hbw⟩ := hrel
    by_cases hil : i < xs.length
    · have hil2 : (i : Int) < xs.length := by omega
      obtain ⟨g, rfl⟩ := HA.out (by omega)
      obtain ⟨a0, a1, a2⟩ := cells3_reads (HX.out _ hbw.out) hil
      have HC1 := Lib.hid (HC.out xs[i] (List.getElem_mem hil) wr)
      unfold flV at HC1
      cases hb : isName xs[i].host with
      | false =>
        rw [hb] at HC1
        have HF := Lib.hid (fun W => HH.out i hil W hb hall.out)
        clear hb
        generalize xs[i].key = x0 at *
        generalize xs[i].host = x1 at *
        generalize xs[i].til = x2 at *
        go_wp2_with fail
        refine HC1.out.mono ?_
        rintro e w1 ⟨rfl, hb1⟩
        have hb2 := hbw.out.trans (hb1.mono hbw.out.size)
        clear hb1
        go_wp2
        go_ret
        exact HF.out _ hb2
      | true =>
        rw [hb] at HC1
        have HA2 : Hid (∀ j (hj : j < xs.length), j < i + 1 → isName xs[j].host = true) := Lib.hid fun j hj h => by
          rcases Nat.lt_succ_iff_lt_or_eq.1 h with h1 | rfl
          · exact hall.out j hj h1
          · exact hb
        clear hb hall
        generalize xs[i].key = x0 at *
        generalize xs[i].host = x1 at *
        generalize xs[i].til = x2 at *
        go_wp2_with fail
        refine HC1.out.mono ?_
        rintro e w1 ⟨rfl, hb1⟩
        have HB2 := Lib.hid (hbw.out.trans (hb1.mono hbw.out.size))
        clear hb1
        go_wp2
        go_roundw
        case rel => exact ⟨i + 1, by omega, by go_num, HA2, HB2⟩
        case measure => simp [intOf]; omega
    · obtain rfl : i = xs.length := by omega
      have hge : ¬ (xs.length : Int) < xs.length := by omega
      have HP := Lib.hid (HM.out wr (fun j hj => hall.out j hj hj) hbw.out)
      clear hall hbw
      go_wp2
      go_ret
      exact HP.out
end Go.Proofs.YteilefpjfbholaaGreatDoor

namespace Go.Proofs.YteilefpjfbholaaGreatDoor
open Go.RowKit

end Go.Proofs.YteilefpjfbholaaGreatDoor

namespace Go.Proofs.YteilefpjfbholaaGreatDoor
open Go.RowKit

end Go.Proofs.YteilefpjfbholaaGreatDoor

namespace Go.Proofs.YteilefpjfbholaaGreatDoor
open Go.RowKit

theorem Turn.readsNe {bs : List Nat} {w w' : World} (h : Turn bs w w') {B n size : Nat} {A : Option Addr} {xs : List Value} (hr : Reads w B size A n xs) (hA : 0 < n → ∀ ad, A = some ad → ad.block ∉ bs) : Reads w' B size A n xs := by
  refine ⟨hr.1, fun hn => ?_⟩
  obtain ⟨ad, rfl, hb, hc⟩ := hr.2 hn
  refine ⟨ad, rfl, hb, fun j u hu => h.cell (hc j u hu) ?_⟩
  rw [block_of_add]
  exact hA hn ad rfl
theorem hM4d {w : World} {b : Nat} {L : List Fl} (h : FlMap w b L) : FlMap w.drew b L := h.below (bl_drew (Below.refl _ _))
theorem addp_way {now : Nat} {L1 : List Fl} {x : Fl} :
    ((findF L1 x.key).isSome = true ∧ add1 now L1 x = L1) ∨
    ((findF L1 x.key).isSome = false ∧ decide (x.til > (now : Int)) = false ∧ add1 now L1 x = L1) ∨
    ((findF L1 x.key).isSome = false ∧ decide (x.til > (now : Int)) = true ∧ decide (x.til ≤ (now : Int) + 1000) = false ∧ add1 now L1 x = L1) ∨
    ((findF L1 x.key).isSome = false ∧ decide (x.til > (now : Int)) = true ∧ decide (x.til ≤ (now : Int) + 1000) = true ∧ decide ((L1.length : Int) < 200) = false ∧ add1 now L1 x = L1) ∨
    ((findF L1 x.key).isSome = false ∧ decide (x.til > (now : Int)) = true ∧ decide (x.til ≤ (now : Int) + 1000) = true ∧ decide ((L1.length : Int) < 200) = true ∧ add1 now L1 x = insF x (delF x.key L1)) := by
  have hno : ¬ addOk now L1 x = true → add1 now L1 x = L1 := fun h => by unfold add1; rw [if_neg h]
  simp only [decide_eq_true_eq, decide_eq_false_iff_not]
  cases hf : findF L1 x.key with
  | some y => exact .inl ⟨rfl, hno fun h => by have := (addOk_parts.1 h).1; rw [hf] at this; cases this⟩
  | none =>
    by_cases h1 : x.til > (now : Int)
    · by_cases h2 : x.til ≤ (now : Int) + 1000
      · by_cases h3 : L1.length < 200
        · refine .inr (.inr (.inr (.inr ⟨rfl, h1, h2, by omega, ?_⟩)))
          unfold add1
          rw [if_pos (addOk_parts.2 ⟨hf, h1, h2, h3⟩), delF_none (findF_none hf)]
        · exact .inr (.inr (.inr (.inl ⟨rfl, h1, h2, by omega, hno fun h => h3 (addOk_parts.1 h).2.2.2⟩)))
      · exact .inr (.inr (.inl ⟨rfl, h1, h2, hno fun h => h2 (addOk_parts.1 h).2.2.1⟩))
    · exact .inr (.inl ⟨rfl, h1, hno fun h => h1 (addOk_parts.1 h).2.1⟩)
def Added (fp mb time now : Nat) (L xs : List Fl) (w : World) (e : Ending) (w' : World) : Prop := e = .returned (.tuple #[.int .i64 (((addF now L xs).length - L.length : Nat) : Int), .nilIface]) ∧ FlowsR w' fp mb time now (addF now L xs) ∧ Turn [fp, mb] w w'
set_option maxRecDepth 100000 in
set_option maxHeartbeats 800000 in
theorem addF_ok {fp mb time last : Nat} {L xs : List Fl} {A : Option Addr} {cap : Nat} (now : Nat) (w : World) (h : FlowsR w fp mb time last L) (h1 : last ≤ now) (h2 : now ≤ 1099511627776) (hx : Reads w w.heap.size 3 A xs.length (flsC xs)) (hA : 0 < xs.length → ∃ g, A = some ⟨g, 0, none⟩ ∧ g ∉ [fp, mb]) (hl : xs.length ≤ 1000) (hs : ∀ x ∈ xs, x.host.size ≤ maxLen) (hu : ∀ x ∈ xs, U64 x.key) (hb : badAt xs = none) :
    Calls Tryz.prog 53 #[.pointer (some ⟨fp, 0, none⟩), .slice A xs.length cap, .int .i64 (now : Int)] w (Added fp mb time now L xs w) := by
  have c1 := h.c1
  have t1 : decide ((now : Int) < 0) = false := by simp
  have t2 : decide ((now : Int) > 1099511627776) = false := by simp; omega
  have t3 : decide ((now : Int) < (last : Int)) = false := by simp; omega
  have HI := Lib.hid (indexFlows_any A cap w.heap.size xs w hx (Nat.le_refl _) (fun h0 => by obtain ⟨g, hg, _⟩ := hA h0; exact ⟨g, hg⟩) hl hs)
  unfold IdxBad badI at HI
  rw [hb] at HI
  have HF := Lib.hid h
  have HX : Hid (∀ W, Turn [fp, mb] w W → Reads W w.heap.size 3 A xs.length (flsC xs)) := Lib.hid fun W hW => hW.readsNe hx fun h0 ad had => by
    obtain ⟨g, hg, hn⟩ := hA h0
    rw [hg] at had
    cases had
    exact hn
  have HA : Hid (0 < xs.length → ∃ g, A = some ⟨g, 0, none⟩) := Lib.hid fun h0 => by obtain ⟨g, hg, _⟩ := hA h0; exact ⟨g, hg⟩
  have HU := Lib.hid hu
  have hL := h.len
  clear h hx hA hs hb hu
  go_enter Tryz.func53, Tryz.ntmps53
  go_wp2_with fail
  refine HI.out.mono ?_
  rintro e w1 ⟨rfl, hb1⟩
  have hF1 := HF.out.below hb1
  have f1 := hF1.blk.frozen 1
  have c11 := hF1.c1
  have hlt1 := hF1.blk.lt
  have HF2 := Lib.hid (hF1.tick (now := now) h2)
  have HT2 : Hid (Turn [fp, mb] w (w1.setCell ⟨fp, 1, none⟩ (.int .i64 (now : Int)))) := Lib.hid ((Turn.of_below hb1 : Turn [fp, mb] w w1).setCell (p := ⟨fp, 1, none⟩) (.inl (by simp)) (.int .i64 (now : Int)))
  have HM2 := HF2.out.map
  have c2 := HF2.out.c2
  have q1 : decide ((-1 : Int) ≥ 0) = false := by decide
  clear hF1 hb1 c1
  generalize hW1 : w1.setCell ⟨fp, 1, none⟩ (.int .i64 (now : Int)) = W1 at *
  go_wp2_with (first
    | (at_len; refine wp_fl_len rfl _ rfl rfl HM2 ?_)
    | fail)
  clear c11 f1 q1 hW1 c2 HM2 hlt1
  go_loopw [48] (fun iv wr => ∃ i : Nat, i ≤ xs.length ∧ iv = .int .i64 (i : Int) ∧ Hid (FlowsR wr fp mb time now (addF now L (xs.take i))) ∧ Hid (Turn [fp, mb] w wr)) (fun iv _ => xs.length + 1 - (intOf iv).toNat)
  case atStart => exact ⟨0, Nat.zero_le _, rfl, Lib.hid (by simpa [addF] using HF2.out), HT2⟩
  case round =>
    obtain ⟨i, hi, rfl, hFi, hTi⟩ := hrel
    clear HF2 HT2
    by_cases hil : i < xs.length
    · have hil2 : (i : Int) < xs.length := by omega
      obtain ⟨g, rfl⟩ := HA.out (by omega)
      obtain ⟨a0, a1, a2⟩ := cells3_reads (HX.out _ hTi.out) hil
      have HSTEP := Lib.hid (addF_take (now := (now : Int)) (L := L) i hil)
      have hway := addp_way (now := now) (L1 := addF now L (xs.take i)) (x := xs[i])
      have hU := HU.out _ (List.getElem_mem hil)
      generalize addF now L (xs.take i) = L1 at *
      generalize xs[i] = x at *
      have hB1 := Blk.new wr 43 #[.int .u64 (x.key : Int), .string x.host, .int .i64 x.til]
      have hb1 := (Below.refl wr.heap.size wr).alloc (Nat.le_refl _) (.cells #[.int .u64 (x.key : Int), .string x.host, .int .i64 x.til] 43)
      have HF1 := Lib.hid (hFi.out.below hb1)
      have HT1 := Lib.hid (hTi.out.thenB hb1)
      clear hFi hTi hb1 HX
      go_wp2_with fail
      generalize hW2 : wr.alloc (.cells #[.int .u64 (x.key : Int), .string x.host, .int .i64 x.til] 43) = W2 at *
      clear hW2 a0 a1 a2
      obtain ⟨y, hy⟩ : ∃ y, (findF L1 x.key).getD flZ = y := ⟨_, rfl⟩
      obtain ⟨bs, hbs⟩ : ∃ y, (findF L1 x.key).isSome = y := ⟨_, rfl⟩
      rw [hbs] at hway
      have HLK : Hid (∀ W', Below W2.heap.size W2 W' → (Instr.lookup 140 (.map (some mb)) (.int .u64 (x.key : Int)) true).run Tryz.prog W' = .ok (.tuple #[.agg #[.int .u64 (y.key : Int), .string y.host, .int .i64 y.til], .bool bs]) W') := Lib.hid fun W' hb => by
        have hr := (HF1.out.below hb).map.look hU
        rw [hy, hbs] at hr
        exact hr
      have HB1 := Lib.hid hB1
      have HKA : Hid (∀ W', Below W2.heap.size W2 W' → W'.cell? ⟨fp, 2, none⟩ = some (.map (some mb)) ∧ W'.cell? ⟨wr.heap.size, 0, none⟩ = some (.int .u64 (x.key : Int)) ∧ (Instr.lookup 140 (.map (some mb)) (.int .u64 (x.key : Int)) true).run Tryz.prog W' = .ok (.tuple #[.agg #[.int .u64 (y.key : Int), .string y.host, .int .i64 y.til], .bool bs]) W') := Lib.hid fun W' hb => ⟨(HF1.out.below hb).c2, (hB1.below hb hB1.lt).cell 0, HLK.out _ hb⟩
      clear hy hbs hB1
      go_region_held3 (fun w' => w'.cell? ⟨fp, 2, none⟩ = some (.map (some mb)) ∧ w'.cell? ⟨wr.heap.size, 0, none⟩ = some (.int .u64 (x.key : Int)) ∧ (Instr.lookup 140 (.map (some mb)) (.int .u64 (x.key : Int)) true).run Tryz.prog w' = .ok (.tuple #[.agg #[.int .u64 (y.key : Int), .string y.host, .int .i64 y.til], .bool bs]) w') (first | exact HKA.out _ (bl_drew (Below.refl _ _)) | exact HKA.out _ (bl_drew ((Below.refl _ _).alloc (Nat.le_refl _) _)) | go_keep) (fail)
      all_goals
        have hb3 := bl_drew ((Below.refl W2.heap.size W2).alloc (Nat.le_refl _) (.cells #[.int .u64 (y.key : Int), .string y.host, .int .i64 y.til] 43))
        generalize (W2.alloc (.cells #[.int .u64 (y.key : Int), .string y.host, .int .i64 y.til] 43)).drew = W4 at *
        have HF4 := Lib.hid (HF1.out.below hb3)
        have HT4 := Lib.hid (HT1.out.thenB hb3)
        have hB4 := HB1.out.below hb3 HB1.out.lt
        have c0 : W4.cell? ⟨wr.heap.size, 0, none⟩ = some (.int .u64 (x.key : Int)) := hB4.cell 0
        have c1 : W4.cell? ⟨wr.heap.size, 1, none⟩ = some (.string x.host) := hB4.cell 1
        have c2 : W4.cell? ⟨wr.heap.size, 2, none⟩ = some (.int .i64 x.til) := hB4.cell 2
        have m2 := HF4.out.c2
        have HM4 := HF4.out.map
        have hlen1 := HF4.out.len
        clear hB4 hb3 HKA HLK HB1 HF1 HT1
        rcases hway with ⟨rfl, hk⟩ | ⟨rfl, d1, hk⟩ | ⟨rfl, d1, d2, hk⟩ | ⟨rfl, d1, d2, d3, hk⟩ | ⟨rfl, d1, d2, d3, hk⟩
        · have HN : Hid (FlowsR W4 fp mb time now (addF now L (xs.take (i + 1)))) := Lib.hid (by rw [HSTEP.out, hk]; exact HF4.out)
          clear hk HSTEP HF4
          go_wp2_with (first
            | (at_len; refine wp_fl_lenG rfl _ rfl rfl HM4 ?_)
            | fail)
          go_roundw
          case rel => exact ⟨i + 1, by omega, by go_num, HN, HT4⟩
          case measure => simp [intOf]; omega
        · have HN : Hid (FlowsR W4 fp mb time now (addF now L (xs.take (i + 1)))) := Lib.hid (by rw [HSTEP.out, hk]; exact HF4.out)
          clear hk HSTEP HF4
          go_wp2_with (first
            | (at_len; refine wp_fl_lenG rfl _ rfl rfl HM4 ?_)
            | fail)
          go_roundw
          case rel => exact ⟨i + 1, by omega, by go_num, HN, HT4⟩
          case measure => simp [intOf]; omega
        · have HN : Hid (FlowsR W4 fp mb time now (addF now L (xs.take (i + 1)))) := Lib.hid (by rw [HSTEP.out, hk]; exact HF4.out)
          clear hk HSTEP HF4
          go_wp2_with (first
            | (at_len; refine wp_fl_lenG rfl _ rfl rfl HM4 ?_)
            | fail)
          go_roundw
          case rel => exact ⟨i + 1, by omega, by go_num, HN, HT4⟩
          case measure => simp [intOf]; omega
        · have HN : Hid (FlowsR W4 fp mb time now (addF now L (xs.take (i + 1)))) := Lib.hid (by rw [HSTEP.out, hk]; exact HF4.out)
          clear hk HSTEP HF4
          go_wp2_with (first
            | (at_len; refine wp_fl_lenG rfl _ rfl rfl HM4 ?_)
            | fail)
          go_roundw
          case rel => exact ⟨i + 1, by omega, by go_num, HN, HT4⟩
          case measure => simp [intOf]; omega
        · have HST := Lib.hid HSTEP.out
          have hrw : FlowsR W4 fp mb time now L1 := HF4.out
          have htm := HF4.out.time
          obtain ⟨w5, hrun, hM5, hg5⟩ := (hM4d HM4).put x hU (by omega)
          unfold flV at hrun
          have HFin : Hid (FlowsR w5 fp mb time now (addF now L (xs.take (i + 1)))) := Lib.hid (by
            rw [HST.out, hk]
            refine ⟨HF4.out.blk.drew.grown hg5 (by simpa using HF4.out.ne), hM5, ?_, htm, h2⟩
            rw [← hk]
            exact (add1_len hlen1 x).1)
          have HT5 : Hid (Turn [fp, mb] w w5) := Lib.hid (HT4.out.then (Turn.undrew (Turn.of_grown hg5 fun g e => by cases e; simp)))
          clear hk HSTEP HST HF4 hrw hM5 hg5
          go_wp2_with (first
            | (at_len; refine wp_fl_lenG rfl _ rfl rfl HM4 ?_)
            | fail)
          go_region
          go_wp2
          go_roundw
          case rel => exact ⟨i + 1, by omega, by go_num, HFin, HT5⟩
          case measure => simp [intOf]; omega
    · obtain rfl : i = xs.length := by omega
      have hge : ¬ (xs.length : Int) < xs.length := by omega
      rw [List.take_length] at hFi
      have hMe := hFi.out.map
      have ce := hFi.out.c2
      have hle := hFi.out.len
      obtain ⟨hl3, hl4⟩ := addF_len (now := (now : Int)) (xs := xs) hL
      have hsub : IntKind.i64.wrap (((addF now L xs).length : Int) - (L.length : Int)) = (((addF now L xs).length - L.length : Nat) : Int) := (IntWalk.i64_in _ (by omega)).trans (by omega)
      have HP : Hid (Added fp mb time now L xs w (.returned (.tuple #[.int .i64 (((addF now L xs).length - L.length : Nat) : Int), .nilIface])) wr) := Lib.hid ⟨rfl, hFi.out, hTi.out⟩
      have HS := Lib.hid hsub
      generalize addF now L xs = L2 at *
      clear hFi hTi HX hsub HU
      go_wp2_with (first
        | (at_len; refine wp_fl_len rfl _ rfl rfl hMe ?_)
        | fail)
      go_ret2
      have e : (L2.length : Int) - (L.length : Int) = ((L2.length - L.length : Nat) : Int) := by omega
      rw [e]
      exact HP.out
end Go.Proofs.YteilefpjfbholaaGreatDoor
