/-
  The walk of the reference's Get; the errors of Expire.
-/
import Derived.Test.YtlgnhifjakkodaaDoorRefSweep
import Derived.Test.YtlgnhifjakkodaaDoorFlowGet
namespace Go.Proofs.YtlgnhifjakkodaaDoor
open Go.RowKit

set_option maxHeartbeats 2000000 in
theorem ref_get_bad {B mp time last : Nat} {L : List Fl} {sv : Value} (k : Nat) (now : Int) (w : World) (h : RFs w B mp time last L sv) (ht : tickE last now ≠ 0) :
    Calls Tryd.prog 15 #[.pointer (some ⟨mp, 0, none⟩), .int .u64 (k : Int), .int .i64 now] w fun e w' => e = .returned (.tuple #[.string ⟨#[]⟩, .bool false, .int .i64 (tickE last now : Int)]) ∧ w = w' := by
  have HT := Lib.hid (ref_tick now w h)
  generalize tickE last now = te at *
  have q1 : 0 < te := by omega
  clear h ht
  go_enter Tryd.func15, Tryd.ntmps15
  go_wp2_with fail
  refine HT.out.mono ?_
  rintro e w1 ⟨rfl, rfl⟩
  go_wp2
  go_ret3
  exact ⟨rfl, rfl⟩
set_option maxHeartbeats 2000000 in
theorem ref_expire_bad {B mp time last : Nat} {L : List Fl} {sv : Value} (now : Int) (w : World) (h : RFs w B mp time last L sv) (ht : tickE last now ≠ 0) :
    Calls Tryd.prog 16 #[.pointer (some ⟨mp, 0, none⟩), .int .i64 now] w fun e w' => e = .returned (.tuple #[.int .i64 0, .int .i64 (tickE last now : Int)]) ∧ w = w' := by
  have HT := Lib.hid (ref_tick now w h)
  generalize tickE last now = te at *
  have q1 : 0 < te := by omega
  clear h ht
  go_enter Tryd.func16, Tryd.ntmps16
  go_wp2_with fail
  refine HT.out.mono ?_
  rintro e w1 ⟨rfl, rfl⟩
  go_wp2
  go_ret2
  exact ⟨rfl, rfl⟩
def gotR (o : Option ByteArray) : Value := match o with
  | none => .tuple #[.string ⟨#[]⟩, .bool false, .int .i64 0]
  | some s => .tuple #[.string s, .bool true, .int .i64 0]
def RefGot (B mp time now : Nat) (L : List Fl) (k : Nat) (w : World) (e : Ending) (w' : World) : Prop := e = .returned (gotR (getF L k now)) ∧ ∃ sv', RFs w' B mp time now L sv' ∧ Turn [mp] w w'
set_option maxRecDepth 100000 in
set_option maxHeartbeats 4000000 in
theorem ref_get_ok {B mp time last : Nat} {L : List Fl} {sv : Value} (k now : Nat) (w : World) (h : RFs w B mp time last L sv) (hr : Rise L) (h1 : last ≤ now) (h2 : now ≤ 1099511627776) :
    Calls Tryd.prog 15 #[.pointer (some ⟨mp, 0, none⟩), .int .u64 (k : Int), .int .i64 (now : Int)] w (RefGot B mp time now L k w) := by
  have HT := Lib.hid (ref_tick (now : Int) w h)
  have ht0 : tickE last (now : Int) = 0 := by unfold tickE; rw [if_neg (by omega), if_neg (by omega)]
  rw [ht0] at HT
  have c1 : w.cell? ⟨mp, 1, none⟩ = some (.int .i64 (last : Int)) := h.blk.cell 1
  have f1 := h.blk.frozen 1
  obtain ⟨hF2, hT2⟩ := h.tick now
  have HFD := Lib.hid (ref_find k _ hF2)
  have HP : Hid (∀ v, gotR (getF L k now) = v → RefGot B mp time now L k w (.returned v) (w.setCell ⟨mp, 1, none⟩ (.int .i64 (now : Int)))) := Lib.hid fun v hv => ⟨by rw [hv], sv, hF2, hT2⟩
  have HF2 := Lib.hid hF2
  have hlen := h.len
  have hcase := posF_cases (L := L) k
  have HR := Lib.hid hr
  generalize posF L k = pk at *
  clear h hF2 hT2 h1 ht0 hr
  rcases hcase with ⟨i, hi, rfl, hik⟩ | ⟨rfl, hf⟩
  · have hff := findF_at HR.out hi
    rw [hik] at hff
    obtain ⟨g, cap, hv, _, _⟩ := HF2.out.row.form (by omega)
    subst hv
    have c2 : (w.setCell ⟨mp, 1, none⟩ (.int .i64 (now : Int))).cell? ⟨mp, 2, none⟩ = some (.slice (some ⟨g, 0, none⟩) L.length cap) := HF2.out.blk.cell 2
    obtain ⟨y0, y1, y2⟩ := cells3_of HF2.out.row hi
    clear y0
    have hi2 : (i : Int) < L.length := by omega
    have hi0 : ¬ (i : Int) < 0 := by omega
    have hg : gotR (getF L k now) = if L[i].til ≤ (now : Int) then .tuple #[.string ⟨#[]⟩, .bool false, .int .i64 0] else .tuple #[.string L[i].host, .bool true, .int .i64 0] := by
      unfold getF
      rw [hff]
      dsimp only
      by_cases hle : L[i].til ≤ (now : Int)
      · rw [if_pos hle]; first | rw [if_pos hle]; rfl | simp [hle, gotR]
      · rw [if_neg hle]; first | rw [if_neg hle]; rfl | simp [hle, gotR]
    rw [hg] at HP
    clear hg hff hik HF2 HR
    generalize L[i].til = yt at *
    generalize L[i].host = yh at *
    generalize L.length = n at *
    by_cases hle : yt ≤ (now : Int)
    · have d1 : decide (yt ≤ (now : Int)) = true := by simpa using hle
      rw [if_pos hle] at HP
      clear hle
      go_enter Tryd.func15, Tryd.ntmps15
      go_wp2_with fail
      refine HT.out.mono ?_
      rintro e w1 ⟨rfl, rfl⟩
      go_wp2_with fail
      generalize w.setCell ⟨mp, 1, none⟩ (.int .i64 (now : Int)) = W0 at *
      refine HFD.out.mono ?_
      rintro e w3 ⟨rfl, rfl⟩
      clear c1 f1 HFD HT
      go_wp2
      go_ret3
      exact HP.out _ rfl
    · have d1 : decide (yt ≤ (now : Int)) = false := by simpa using hle
      rw [if_neg hle] at HP
      clear hle
      go_enter Tryd.func15, Tryd.ntmps15
      go_wp2_with fail
      refine HT.out.mono ?_
      rintro e w1 ⟨rfl, rfl⟩
      go_wp2_with fail
      generalize w.setCell ⟨mp, 1, none⟩ (.int .i64 (now : Int)) = W0 at *
      refine HFD.out.mono ?_
      rintro e w3 ⟨rfl, rfl⟩
      clear c1 f1 HFD HT
      go_wp2
      go_ret3
      exact HP.out _ rfl
  · have hg : gotR (getF L k now) = .tuple #[.string ⟨#[]⟩, .bool false, .int .i64 0] := by
      unfold getF
      rw [hf]
      rfl
    rw [hg] at HP
    clear hg hf HF2 HR
    go_enter Tryd.func15, Tryd.ntmps15
    go_wp2_with fail
    refine HT.out.mono ?_
    rintro e w1 ⟨rfl, rfl⟩
    go_wp2_with fail
    generalize w.setCell ⟨mp, 1, none⟩ (.int .i64 (now : Int)) = W0 at *
    refine HFD.out.mono ?_
    rintro e w3 ⟨rfl, rfl⟩
    clear c1 f1 HFD HT
    go_wp2
    go_ret3
    exact HP.out _ rfl
end Go.Proofs.YtlgnhifjakkodaaDoor
