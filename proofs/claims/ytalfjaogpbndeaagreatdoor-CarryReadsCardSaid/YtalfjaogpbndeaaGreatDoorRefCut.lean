/-
  The walk of the reference's cut: a text cut by a byte.
-/
import Derived.Test.YtalfjaogpbndeaaGreatDoorCutting
import Derived.Test.YtalfjaogpbndeaaGreatDoorRefDigits
import Derived.Test.YtalfjaogpbndeaaGreatDoorFlCells
import Derived.Test.YtalfjaogpbndeaaGreatDoorTurn
namespace Go.Proofs.YtalfjaogpbndeaaGreatDoor
open Go.RowKit

def glueHead (w : List UInt8) : List (List UInt8) → List (List UInt8)
  | [] => [w]
  | a :: t => (w ++ a) :: t
theorem glueHead_nil (c : UInt8) (l : List UInt8) : glueHead [] (cuts c l) = cuts c l := by
  cases h : cuts c l with
  | nil => exact absurd h (cuts_ne c l)
  | cons a t => rfl
theorem glueHead_same {c : UInt8} {r w : List UInt8} : glueHead w (cuts c (c :: r)) = w :: cuts c r := by
  rw [cuts, if_pos rfl, glueHead, List.append_nil]
theorem glueHead_other {c x : UInt8} {r w : List UInt8} (h : ¬ x = c) : glueHead w (cuts c (x :: r)) = glueHead (w ++ [x]) (cuts c r) := by
  rw [cuts, if_neg h]
  cases hc : cuts c r with
  | nil => exact absurd hc (cuts_ne c r)
  | cons a t => simp [glueHead]
/-- Texts as values. -/
def txV (l : List (List UInt8)) : List Value := l.map fun t => Value.string ⟨t.toArray⟩
theorem txV_length (l : List (List UInt8)) : (txV l).length = l.length := by simp [txV]
theorem info_str : (Tryz.prog.info? 9).map (fun i => (i.zero, i.size, i.bytes)) = some (some (.string ⟨#[]⟩), 1, 16) := by kernel_rfl
def CutIs (cs : List (List UInt8)) (w : World) (e : Ending) (w' : World) : Prop := ∃ v, e = .returned v ∧ w'.ownsRow w.heap.size 9 1 v cs.length (txV cs) ∧ Below w.heap.size w w'
set_option maxRecDepth 100000 in
set_option maxHeartbeats 2000000 in
theorem cut_any (s : ByteArray) (c : UInt8) (hs : s.size ≤ 30000) (w : World) :
    Calls Tryz.prog 34 #[.string s, .int .u8 (c.toNat : Int)] w (CutIs (cuts c s.data.toList) w) := by
  obtain ⟨i0, hi0, hz0, hz1, hz2⟩ := info_parts info_str
  have hls : s.data.toList.length = s.size := by simp
  obtain ⟨cs, hcs⟩ : ∃ cs, cs = cuts c s.data.toList := ⟨_, rfl⟩
  have HC := Lib.hid hcs
  rw [← hcs]
  clear hcs
  go_enter Tryz.func34, Tryz.ntmps34
  go_wp2
  go_loopw [5, 6, 7] (fun ov sv iv wr => ∃ (i : Nat) (out : List (List UInt8)) (t : List UInt8), i ≤ s.size ∧ iv = .int .i64 (i : Int) ∧ sv = .string ⟨t.toArray⟩ ∧ t.length ≤ i ∧ out.length ≤ i ∧ Hid (cs = out ++ glueHead t (cuts c (s.data.toList.drop i)) ∧ wr.ownsRow w.heap.size 9 1 ov out.length (txV out)) ∧ Hid (Below w.heap.size w wr)) (fun _ _ iv _ => s.size + 1 - (intOf iv).toNat)
  case atStart => exact ⟨0, [], [], Nat.zero_le _, rfl, rfl, Nat.le_refl _, Nat.le_refl _, Lib.hid ⟨by rw [HC.out, glueHead_nil]; rfl, World.ownsRow_nil _ _ _ _⟩, Lib.hid (Below.refl _ _)⟩
  case round =>
    obtain ⟨i, out, t, hi, rfl, rfl, ht, ho, hG, hb⟩ := hrel
    have HO := Lib.hid (fun W (hW : Below wr.heap.size wr W) => own_below hG.out.2 hW)
    have HB1 := Lib.hid ((Below.refl wr.heap.size wr).alloc (Nat.le_refl _) (.cells #[.string ⟨t.toArray⟩] 9))
    have HB2 := Lib.hid (hb.out.trans (HB1.out.mono hb.out.size))
    have hbs := hb.out.size
    by_cases hlt : i < s.size
    · have hlt2 : (i : Int) < s.size := by omega
      have hdr : s.data.toList.drop i = s[i] :: s.data.toList.drop (i + 1) := by rw [List.drop_eq_getElem_cons (by omega)]; rfl
      have hG1 := hG.out.1
      rw [hdr] at hG1
      have hx8 := s[i].toNat_lt
      by_cases hx : s[i] = c
      · rw [hx, glueHead_same] at hG1
        have HG1 : Hid (cs = (out ++ [t]) ++ glueHead [] (cuts c (s.data.toList.drop (i + 1)))) := Lib.hid (by rw [glueHead_nil, hG1]; simp)
        have hxn : s[i].toNat = c.toNat := by rw [hx]
        clear hG1 hdr hG hx
        go_wp2_with (first
          | (at_builtin
             go_must (refine wpList_append_own _ rfl _ _ 64 rfl w.heap.size 9 i0 (.string ⟨#[]⟩) 1 16 Tryz.underlying64 hi0 hz0 hz1 hz2 rfl (by decide) _ out.length (txV out) rfl (HO.out _ HB1.out) ⟨wr.heap.size, 0, none⟩ 1 1 [.string ⟨t.toArray⟩] rfl rfl (cell_one_new _ _ _) (by simp [Value.oneCell']) ?h1 ?h2 ?h3 ?_)
             case h1 => simp only [maxLen]; omega
             case h2 => omega
             case h3 => simp; omega
             intro v6 w6 hown6 hg6 _)
          | fail)
        have hown7 : w6.ownsRow w.heap.size 9 1 v6 (out ++ [t]).length (txV (out ++ [t])) := by
          rw [List.length_append, List.length_singleton]
          simpa [txV] using hown6
        have hb6 := HB2.out.grown hg6 HB2.out.size (fun g e => ((HO.out _ HB1.out).lt g e).1)
        refine ⟨⟨i + 1, out ++ [t], [], by omega, by norm_cast, rfl, Nat.zero_le _, by simp; omega, Lib.hid ⟨HG1.out, hown7⟩, Lib.hid hb6⟩, by simp [intOf]; omega⟩
      · rw [glueHead_other hx] at hG1
        have HG1 := Lib.hid hG1
        have hxn : ¬ s[i].toNat = c.toNat := fun e => hx (UInt8.toNat_inj.1 e)
        have HE : Hid ((⟨t.toArray⟩ : ByteArray) ++ s.extract i (i + 1) = ⟨(t ++ [s[i]]).toArray⟩) := Lib.hid (by
          have e : s.extract i (i + 1) = ⟨([s[i]] : List UInt8).toArray⟩ := by
            apply ByteArray.ext
            rw [ByteArray.data_extract]
            apply Array.ext'
            rw [Array.toList_extract, List.extract_eq_take_drop, show i + 1 - i = 1 by omega, hdr]
            rfl
          rw [e, ba_app])
        have HGo := Lib.hid hG.out.2
        have hsz : t.length + 1 ≤ 40000 := by omega
        clear hG1 hdr hG hx
        go_wp2
        refine ⟨⟨i + 1, out, t ++ [s[i]], by omega, by norm_cast, congrArg Value.string HE.out, by simp; omega, by omega, Lib.hid ⟨HG1.out, HGo.out⟩, hb⟩, by simp [intOf]; omega⟩
    · obtain rfl : i = s.size := by omega
      have hge : ¬ (s.size : Int) < s.size := by omega
      have hG1 := hG.out.1
      rw [List.drop_of_length_le (by omega)] at hG1
      have HG1 : Hid (cs = out ++ [t]) := Lib.hid (by rw [hG1]; simp [cuts, glueHead])
      clear hG1 hG
      go_wp2_with (first
        | (at_builtin
           go_must (refine wpList_append_own _ rfl _ _ 64 rfl w.heap.size 9 i0 (.string ⟨#[]⟩) 1 16 Tryz.underlying64 hi0 hz0 hz1 hz2 rfl (by decide) _ out.length (txV out) rfl (HO.out _ HB1.out) ⟨wr.heap.size, 0, none⟩ 1 1 [.string ⟨t.toArray⟩] rfl rfl (cell_one_new _ _ _) (by simp [Value.oneCell']) ?h1 ?h2 ?h3 ?_)
           case h1 => simp only [maxLen]; omega
           case h2 => omega
           case h3 => simp; omega
           intro v6 w6 hown6 hg6 _)
        | fail)
      have hown7 : w6.ownsRow w.heap.size 9 1 v6 cs.length (txV cs) := by
        rw [HG1.out, List.length_append, List.length_singleton]
        simpa [txV] using hown6
      have hb6 := HB2.out.grown hg6 HB2.out.size (fun g e => ((HO.out _ HB1.out).lt g e).1)
      go_ret
      exact ⟨v6, rfl, hown7, hb6⟩
/-- Where cut's texts lie. -/
theorem tx_cells {w : World} {B : Nat} {v : Value} {cs : List (List UInt8)} (h : w.ownsRow B 9 1 v cs.length (txV cs)) (hn : 0 < cs.length) :
    ∃ g cap, v = .slice (some ⟨g, 0, none⟩) cs.length cap ∧ cs.length ≤ cap ∧ g < w.heap.size ∧ B ≤ g ∧ ∀ j t, cs[j]? = some t → w.cell? ⟨g, j, none⟩ = some (.string ⟨t.toArray⟩) := by
  obtain ⟨A, cap, hv, hr, hcap, _⟩ := own_slice h
  obtain ⟨g, cap', hv2, hB, hlt⟩ := h.form hn
  rw [hv] at hv2
  injection hv2 with h1 _ h3
  subst h1
  refine ⟨g, cap, hv, hcap, hlt, hB, fun j t hj => ?_⟩
  obtain ⟨ad, hA, _, hc⟩ := hr.2 hn
  cases hA
  have := hc j (.string ⟨t.toArray⟩) (by simp [txV, hj])
  rwa [add_zero_] at this
end Go.Proofs.YtalfjaogpbndeaaGreatDoor
