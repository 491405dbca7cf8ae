/-
  The walk of the reference's CarryOf.
-/
import Derived.Test.YtalfjaogpbndeaaGreatDoorCarReads
import Derived.Test.YtalfjaogpbndeaaGreatDoorRefCarFault
import Derived.Test.YtalfjaogpbndeaaGreatDoorRefCut
import Derived.Test.YtalfjaogpbndeaaGreatDoorRefKey
import Derived.Test.YtalfjaogpbndeaaGreatDoorCrcAll
import Derived.Test.YtalfjaogpbndeaaGreatDoorRefCrc
namespace Go.Proofs.YtalfjaogpbndeaaGreatDoor
open Go.RowKit

theorem glue_one {c : UInt8} : ∀ (l : List UInt8) {d : List UInt8}, cuts c l = [d] → l = d
  | [], d, h => by simpa [cuts] using h
  | x :: r, d, h => by
    unfold cuts at h
    split at h
    · simp only [List.cons.injEq] at h
      exact absurd h.2 (cuts_ne c r)
    · have hne := cuts_ne c r
      cases hc : cuts c r with
      | nil => exact absurd hc hne
      | cons a t =>
        rw [hc] at h
        simp only [List.headD_cons, List.tail_cons, List.cons.injEq] at h
        obtain ⟨rfl, rfl⟩ := h
        rw [glue_one r hc]
theorem glue_more {c : UInt8} : ∀ (l : List UInt8) {a : List UInt8} {t : List (List UInt8)}, t ≠ [] → cuts c l = a :: t → ∃ r, l = a ++ c :: r ∧ cuts c r = t
  | [], a, t, ht, h => by simp [cuts] at h; exact absurd h.2.symm (fun e => ht e.symm)
  | x :: r, a, t, ht, h => by
    unfold cuts at h
    split at h
    · rename_i hx
      simp only [List.cons.injEq] at h
      obtain ⟨rfl, h2⟩ := h
      exact ⟨r, by rw [hx]; rfl, h2⟩
    · have hne := cuts_ne c r
      cases hc : cuts c r with
      | nil => exact absurd hc hne
      | cons b t2 =>
        rw [hc] at h
        simp only [List.headD_cons, List.tail_cons, List.cons.injEq] at h
        obtain ⟨rfl, rfl⟩ := h
        obtain ⟨r2, h1, h2⟩ := glue_more r ht hc
        exact ⟨r2, by rw [h1]; rfl, h2⟩
theorem sumOf_words {l t : List UInt8} (h : cuts 32 l = [[115, 117, 109], t]) : sumOf l = Hex.keyOf t 8 := by
  obtain ⟨r, rfl, h2⟩ := glue_more l (by simp) h
  obtain rfl := glue_one r h2
  simp [sumOf, wSum]
theorem sumOf_none {l : List UInt8} (h : ¬ ∃ t, cuts 32 l = [[115, 117, 109], t]) : sumOf l = none := by
  cases hs : sumOf l with
  | none => rfl
  | some n =>
    refine absurd ⟨Hex.text n 8, ?_⟩ h
    have e : l = [115, 117, 109] ++ 32 :: Hex.text n 8 := sumOf_some hs
    rw [e, cuts_cons 32 _ _ (by decide), cuts_none 32 _ (not32 (fun b hb => hex_byte hb) (by omega))]
theorem ckGo_pos : ∀ (l : List Fl) (S : List Nat) (i : Nat) {f : Flt}, ckGo S i l = some f → 0 < f.code
  | [], _, _, _, h => by cases h
  | x :: r, S, i, f, h => by
    unfold ckGo at h
    split at h
    · exact ckGo_pos r _ _ h
    · rename_i h0
      cases h
      show 0 < ckOne S x
      omega
theorem checkOf_code' {ep : Int} {L : List Fl} {f : Flt} (h : checkOf ep L = some f) : 0 < fCode (some f) := by
  show 0 < f.code
  unfold checkOf at h
  split at h
  · cases h; decide
  · exact ckGo_pos _ _ _ h
theorem fl_cell1 (w : World) (x : Fl) : ∀ (j : Nat) (u : Value), (flC x)[j]? = some u → (w.alloc (.cells #[.int .u64 (x.key : Int), .string x.host, .int .i64 x.til] 45)).cell? ((⟨w.heap.size, 0, none⟩ : Addr).add j) = some u := by
  intro j u hu
  have hB := Blk.new w 45 #[.int .u64 (x.key : Int), .string x.host, .int .i64 x.til]
  rw [add_zero_]
  refine (hB.cell j).trans ?_
  simpa [flC] using hu
theorem readOf_last {s : List UInt8} (h : ¬ 20000 < s.length) (hn : ¬ (3 ≤ (cuts 10 s).length ∧ (cuts 10 s).getLastD [] = [])) : readOf s = .bad ⟨1, none⟩ := by
  cases hh : headOf ((cuts 10 s).headD []) with
  | none => exact readOf_head h hh
  | some p => exact readOf_shape h hh (fun hc => hn ⟨by omega, hc.2⟩)
theorem headOf_len {a : List UInt8} (h : (cuts 32 a).length ≠ 3) : headOf a = none := by
  unfold headOf
  split
  · rename_i hc; rw [hc] at h; exact absurd rfl h
  · rfl
theorem headOf_flows {a b x y : List UInt8} (hc : cuts 32 a = [b, x, y]) (h : b ≠ wFlows) : headOf a = none := by
  unfold headOf; rw [hc]; simp only; rw [if_neg h]
theorem three_of {α : Type} {l : List α} (h : l.length = 3) : ∃ a b c, l = [a, b, c] := by
  match l, h with
  | [a, b, c], _ => exact ⟨a, b, c, rfl⟩
theorem two_of {α : Type} {l : List α} (h : l.length = 2) : ∃ a b, l = [a, b] := by
  match l, h with
  | [a, b], _ => exact ⟨a, b, rfl⟩
theorem headOf_num {a x y : List UInt8} (hc : cuts 32 a = [wFlows, x, y]) : headOf a = match numOf x, numOf y with | some p, some q => some (p, q) | _, _ => none := by
  simp only [headOf, hc, if_true]
  cases numOf x <;> cases numOf y <;> rfl
theorem flowOf_len {a : List UInt8} (h : (cuts 32 a).length ≠ 3) : flowOf a = none := by
  unfold flowOf
  split
  · rename_i hc; rw [hc] at h; exact absurd rfl h
  · rfl
theorem flowOf_three {a b x y : List UInt8} (hc : cuts 32 a = [b, x, y]) : flowOf a = if x = [] then none else (match Hex.keyOf b 16, numOf y with | some k, some n => some (k, x, n) | _, _ => none) := by
  simp only [flowOf, hc]
  by_cases hx : x = []
  · rw [if_pos hx, if_pos hx]
  · rw [if_neg hx, if_neg hx]
    cases Hex.keyOf b 16 <;> cases numOf y <;> rfl
/-- What CarryOf hands back. -/
def CarOf (r : Rd) (w : World) (e : Ending) (w' : World) : Prop :=
  match r with
  | .bad f => e = .returned (.tuple #[.int .i64 0, .slice none 0 0, retFault (some f)]) ∧ Below w.heap.size w w'
  | .good ep L => ∃ v, e = .returned (.tuple #[.int .i64 (ep : Int), v, retFault none]) ∧ w'.ownsRow w.heap.size 45 3 v L.length (flsC L) ∧ Below w.heap.size w w'
theorem carBad {r : Rd} {f : Flt} {w w' : World} {e : Ending} (h : r = .bad f) (he : e = .returned (.tuple #[.int .i64 0, .slice none 0 0, retFault (some f)])) (hb : Below w.heap.size w w') : CarOf r w e w' := by
  subst h; exact ⟨he, hb⟩
theorem res_of {w W0 : World} (hW0 : W0 = w.alloc (.cells #[.int .i64 0, .int .i64 0] 31)) : ∀ W, Below W0.heap.size W0 W → W.cell? ⟨w.heap.size, 0, none⟩ = some (.int .i64 0) ∧ W.cell? ⟨w.heap.size, 1, none⟩ = some (.int .i64 0) ∧ W.frozen? ⟨w.heap.size, 0, none⟩ = false ∧ W.frozen? ⟨w.heap.size, 1, none⟩ = false ∧ w.heap.size < W.heap.size ∧ Below w.heap.size w W := by
  intro W hW
  have hB : Blk W0 w.heap.size 31 #[.int .i64 0, .int .i64 0] := by rw [hW0]; exact Blk.new _ _ _
  have hb := hB.below hW hB.lt
  have h0 : Below w.heap.size w W0 := by rw [hW0]; exact (Below.refl _ _).alloc (Nat.le_refl _) _
  exact ⟨hb.cell 0, hb.cell 1, hb.frozen 0, hb.frozen 1, hb.lt, h0.trans (hW.mono h0.size)⟩
set_option maxRecDepth 100000 in
theorem of_long (s : ByteArray) (w : World) (h : 20000 < s.size) :
    Calls Tryz.prog 15 #[.string s] w (CarOf (readOf s.data.toList) w) := by
  have HQ := Lib.hid (readOf_long (s := s.data.toList) (by simpa using h))
  have d1 : decide ((s.size : Int) > 20000) = true := by simp; omega
  obtain ⟨W0, hW0⟩ : ∃ W0, W0 = w.alloc (.cells #[.int .i64 0, .int .i64 0] 31) := ⟨_, rfl⟩
  have HBK := Lib.hid (res_of hW0)
  go_enter Tryz.func15, Tryz.ntmps15
  go_wp2_with fail
  rw [← hW0]
  have hb0 := Below.refl W0.heap.size W0
  clear hW0
  refine (bare_any _ _).mono ?_
  rintro e wz ⟨rfl, hbz⟩
  obtain ⟨c0, c1, f0, f1, hz, hbw⟩ := HBK.out _ (below_two hb0 hbz)
  have HBW := Lib.hid hbw
  clear hbw hbz
  go_wp2
  refine bodyPost_ret (v := .tuple #[.int .i64 0, .slice none 0 0, retFault (some ⟨2, none⟩)]) (by simp [results, Tryz.results15, go_sem, retFault, fCode, fAt, c0, c1]) rfl (carBad HQ.out rfl ?_)
  exact (HBW.out.setCell (p := ⟨w.heap.size, 0, none⟩) (Nat.le_refl _) _).setCell (p := ⟨w.heap.size, 1, none⟩) (Nat.le_refl _) _
set_option maxRecDepth 100000 in
set_option maxHeartbeats 4000000 in
theorem of_rest (s : ByteArray) (w : World) (h : ¬ 20000 < s.size) :
    Calls Tryz.prog 15 #[.string s] w (CarOf (readOf s.data.toList) w) := by
  have hlen : s.data.toList.length = s.size := by simp
  have h' : ¬ 20000 < s.data.toList.length := by omega
  have d1 : decide ((s.size : Int) > 20000) = false := by simp; omega
  obtain ⟨W0, hW0⟩ : ∃ W0, W0 = w.alloc (.cells #[.int .i64 0, .int .i64 0] 31) := ⟨_, rfl⟩
  have HBK := Lib.hid (res_of hW0)
  have HC := Lib.hid (fun W => cut_any s 10 (by omega) W)
  have hps : ∀ p ∈ cuts 10 s.data.toList, p.length ≤ 20000 := fun p hp => by have := piece_size hp; omega
  have hcl := cuts_len 10 s.data.toList
  have hcl2 := List.count_le_length (a := (10 : UInt8)) (l := s.data.toList)
  have HL := Lib.hid (readOf_last h')
  have HRH := Lib.hid (readOf_head h')
  have HRS := Lib.hid (fun p => readOf_shape (p := p) h')
  have HRR := Lib.hid (fun a last mid ep => readOf_rest (h := a) (last := last) (mid := mid) (ep := ep) h')
  have HSP := Lib.hid (fun m => split_ends (ls := cuts 10 s.data.toList) (m := m))
  have HGL := Lib.hid (fun ls => glue_ends 10 ls s.data.toList)
  have hne := cuts_ne 10 s.data.toList
  obtain ⟨r, hr⟩ : ∃ r, r = readOf s.data.toList := ⟨_, rfl⟩
  rw [← hr] at HL HRH HRS HRR ⊢
  clear hr
  obtain ⟨cs, hcs⟩ : ∃ cs, cs = cuts 10 s.data.toList := ⟨_, rfl⟩
  rw [← hcs] at HC hps hcl HL HRH HRS HRR HSP HGL hne
  have hn1 : cs.length ≤ 20001 := by omega
  have hn0 : 0 < cs.length := by omega
  clear hcl hcl2 hcs h'
  have HPS := Lib.hid hps
  clear hps
  obtain ⟨a, ra, hra⟩ := List.exists_cons_of_ne_nil hne
  obtain ⟨z, hz⟩ : ∃ z, z = cs.getLastD [] := ⟨_, rfl⟩
  rw [← hz] at HL HRS
  have hza : cs[cs.length - 1]? = some z := by
    rw [hz, List.getLastD_eq_getLast?, ← List.getLast?_eq_getElem?, hra, List.getLast?_cons]; rfl
  have haa : cs[0]? = some a := by rw [hra]; rfl
  have hha : cs.headD [] = a := by rw [hra]; rfl
  rw [hha] at HRH HRS HSP
  have hal : a.length ≤ 20000 := HPS.out a (by rw [hra]; exact List.mem_cons_self)
  have hasz : (⟨a.toArray⟩ : ByteArray).size = a.length := by simp [ByteArray.size]
  have HCA := Lib.hid (fun W => cut_any ⟨a.toArray⟩ 32 (by omega) W)
  rw [show (⟨a.toArray⟩ : ByteArray).data.toList = a from rfl] at HCA
  have HZ := Lib.hid hz
  clear hra hne hha hz hasz
  go_enter Tryz.func15, Tryz.ntmps15
  go_wp2_with fail
  rw [← hW0]
  have hb0 := Below.refl W0.heap.size W0
  refine (HC.out W0).mono ?_
  rintro e w1 ⟨v1, rfl, hv1, hb1⟩
  obtain ⟨g1, cap1, rfl, hcap1, hg1, hgb1, hcell1⟩ := tx_cells hv1 hn0
  have HC1 := Lib.hid hcell1
  have ca := hcell1 0 a haa
  have cz := hcell1 _ z hza
  have hw0s : W0.heap.size = w.heap.size + 1 := by rw [hW0]; simp
  clear hcell1 hv1 hW0 HC haa hza hb0
  generalize hcn : cs.length = n at *
  have HCN := Lib.hid hcn
  clear hcn
  by_cases h3 : n < 3
  · have HQ := Lib.hid (HL.out (fun hc => absurd hc.1 (by omega)))
    have d2 : decide ((n : Int) < 3) = true := by simp; omega
    go_wp2_with fail
    refine (bare_any _ _).mono ?_
    rintro e wz ⟨rfl, hbz⟩
    obtain ⟨c0, c1, f0, f1, hz, hbw⟩ := HBK.out _ (below_two hb1 hbz)
    have HBW := Lib.hid hbw
    clear hbw hbz
    go_wp2
    refine bodyPost_ret (v := .tuple #[.int .i64 0, .slice none 0 0, retFault (some ⟨1, none⟩)]) (by simp [results, Tryz.results15, go_sem, retFault, fCode, fAt, c0, c1]) rfl (carBad HQ.out rfl ?_)
    exact (HBW.out.setCell (p := ⟨w.heap.size, 0, none⟩) (Nat.le_refl _) _).setCell (p := ⟨w.heap.size, 1, none⟩) (Nat.le_refl _) _
  have d2 : decide ((n : Int) < 3) = false := by simp; omega
  have hn3 : (n : Int) - 1 = ((n - 1 : Nat) : Int) := by omega
  have hnn : n - 1 < n := by omega
  by_cases hzz : z = []
  · subst hzz
    clear HL
    go_wp2_with fail
    refine (HCA.out w1).mono ?_
    rintro e w2 ⟨v2, rfl, hv2, hb2⟩
    have hb02 := below_two hb1 hb2
    have HCW : Hid (∀ W, Below w2.heap.size w2 W → ∀ j t, cs[j]? = some t → W.cell? ⟨g1, j, none⟩ = some (.string ⟨t.toArray⟩)) := Lib.hid fun W hW j t hj => (hW.cell (p := ⟨g1, j, none⟩) (Nat.lt_of_lt_of_le hg1 hb2.size)).trans ((hb2.cell (p := ⟨g1, j, none⟩) hg1).trans (HC1.out j t hj))
    have hg1' : g1 < w2.heap.size := Nat.lt_of_lt_of_le hg1 hb2.size
    have HPA := Lib.hid (fun p (hp : p ∈ cuts 32 a) => piece_size hp)
    have HHL := Lib.hid (headOf_len (a := a))
    have HHF := Lib.hid (fun b x y => headOf_flows (a := a) (b := b) (x := x) (y := y))
    have HHN := Lib.hid (fun x y => headOf_num (a := a) (x := x) (y := y))
    have hsne := cuts_ne 32 a
    obtain ⟨hs, hhs⟩ : ∃ hs, hs = cuts 32 a := ⟨_, rfl⟩
    rw [← hhs] at hv2 HPA HHL HHF HHN hsne
    have hsn : 0 < hs.length := by cases hs with | nil => exact absurd rfl hsne | cons => simp
    obtain ⟨g2, cap2, rfl, hcap2, hg2, hgb2, hcell2⟩ := tx_cells hv2 hsn
    clear hv2 hsne hhs HCA HC1 ca cz hb2 hg1
    by_cases hs3 : hs.length = 3
    · obtain ⟨b, x, y, rfl⟩ := three_of hs3
      have cb := hcell2 0 b rfl
      have cx := hcell2 1 x rfl
      have cy := hcell2 2 y rfl
      have hxl := HPA.out x (by simp)
      have hyl := HPA.out y (by simp)
      clear hcell2 hs3 hsn HPA HHL
      by_cases hbf : b = wFlows
      · subst hbf
        have hwf : (wFlows == [102, 108, 111, 119, 115]) = true := by decide
        have HHN2 := Lib.hid (HHN.out x y rfl)
        clear HHF HHN
        have hxs : (⟨x.toArray⟩ : ByteArray).size = x.length := by simp [ByteArray.size]
        have hys : (⟨y.toArray⟩ : ByteArray).size = y.length := by simp [ByteArray.size]
        have HNX := Lib.hid (fun W => numberOf_any ⟨x.toArray⟩ (by omega) W)
        have HNY := Lib.hid (fun W => numberOf_any ⟨y.toArray⟩ (by omega) W)
        rw [show (⟨x.toArray⟩ : ByteArray).data.toList = x from rfl] at HNX
        rw [show (⟨y.toArray⟩ : ByteArray).data.toList = y from rfl] at HNY
        unfold NumIs at HNX HNY
        clear hxs hys
        go_wp2_with fail
        refine (HNX.out w2).mono ?_
        rintro e w3 ⟨rfl, rfl⟩
        go_wp2_with fail
        refine (HNY.out w2).mono ?_
        rintro e w3 ⟨rfl, rfl⟩
        clear cb cx cy HNX HNY
        cases hnx : numOf x with
        | none =>
          have HQ := Lib.hid (HRH.out (by rw [HHN2.out, hnx]))
          rw [numI_no hnx]
          go_wp2_with fail
          refine (bare_any _ _).mono ?_
          rintro e wz ⟨rfl, hbz⟩
          obtain ⟨c0, c1, f0, f1, hz, hbw⟩ := HBK.out _ (below_two hb02 hbz)
          have HBW := Lib.hid hbw
          clear hbw hbz
          go_wp2
          refine bodyPost_ret (v := .tuple #[.int .i64 0, .slice none 0 0, retFault (some ⟨1, none⟩)]) (by simp [results, Tryz.results15, go_sem, retFault, fCode, fAt, c0, c1]) rfl (carBad HQ.out rfl ?_)
          exact (HBW.out.setCell (p := ⟨w.heap.size, 0, none⟩) (Nat.le_refl _) _).setCell (p := ⟨w.heap.size, 1, none⟩) (Nat.le_refl _) _
        | some ex =>
          have hix : numI x = (ex : Int) := by unfold numI; rw [hnx]
          rw [hix]
          cases hny : numOf y with
          | none =>
            have HQ := Lib.hid (HRH.out (by rw [HHN2.out, hnx, hny]))
            rw [numI_no hny]
            go_wp2_with fail
            refine (bare_any _ _).mono ?_
            rintro e wz ⟨rfl, hbz⟩
            obtain ⟨c0, c1, f0, f1, hz, hbw⟩ := HBK.out _ (below_two hb02 hbz)
            have HBW := Lib.hid hbw
            clear hbw hbz
            go_wp2
            refine bodyPost_ret (v := .tuple #[.int .i64 0, .slice none 0 0, retFault (some ⟨1, none⟩)]) (by simp [results, Tryz.results15, go_sem, retFault, fCode, fAt, c0, c1]) rfl (carBad HQ.out rfl ?_)
            exact (HBW.out.setCell (p := ⟨w.heap.size, 0, none⟩) (Nat.le_refl _) _).setCell (p := ⟨w.heap.size, 1, none⟩) (Nat.le_refl _) _
          | some my =>
            have hiy : numI y = (my : Int) := by unfold numI; rw [hny]
            rw [hiy]
            have HHO : Hid (headOf a = some (ex, my)) := Lib.hid (by rw [HHN2.out, hnx, hny])
            clear hix hiy hnx hny HHN2
            by_cases hmn : my + 3 = n
            · have e1 : (my : Int) = (n : Int) - 3 := by omega
              have e2 : ((my : Int) != (n : Int) - 3) = false := by rw [e1]; simp
              have hcl : cs.length = my + 3 := by have := HCN.out; omega
              have hsp := HSP.out my (by omega) HZ.out.symm
              obtain ⟨mid, hmid⟩ : ∃ mid, mid = (cs.drop 1).take my := ⟨_, rfl⟩
              obtain ⟨last, hlast⟩ : ∃ last, last = cs.getD (my + 1) [] := ⟨_, rfl⟩
              rw [← hmid, ← hlast] at hsp
              have hml : mid.length = my := by rw [hmid, List.length_take, List.length_drop, hcl]; omega
              subst hml
              have hsh : cs = a :: (mid ++ [last, []]) := by rw [hsp]; simp
              have HR2 : Hid (r = restOf s.data.toList ex last (flowsOf mid)) := Lib.hid (HRR.out a last mid ex hsh HHO.out)
              have hgl := HGL.out (a :: mid ++ [last]) (by rw [hsp])
              have hsz : s.size = a.length + 1 + (mid.flatMap fun l => l ++ [10]).length + (last.length + 1) := by
                have h1 := congrArg List.length hgl
                rw [hlen, List.flatMap_append] at h1
                simp only [List.flatMap_cons, List.flatMap_nil, List.append_nil, List.length_append, List.length_singleton] at h1
                omega
              have HCM : Hid (∀ k (hk : k < mid.length), cs[k + 1]? = some mid[k]) := Lib.hid fun k hk => by
                rw [hsh, List.getElem?_cons_succ, List.getElem?_append_left hk, List.getElem?_eq_getElem hk]
              have hcl1 : cs[mid.length + 1]? = some last := by
                rw [hsh, List.getElem?_cons_succ, List.getElem?_append_right (Nat.le_refl _), Nat.sub_self]; rfl
              have hc00 : cs[0]? = some a := by rw [hsh]; rfl
              have HPM : Hid (∀ k (hk : k < mid.length), mid[k].length ≤ 20000) := Lib.hid fun k hk => HPS.out _ (by rw [hsh]; exact List.mem_cons_of_mem _ (List.mem_append_left _ (List.getElem_mem hk)))
              have hll : last.length ≤ 20000 := HPS.out last (by rw [hsh]; simp)
              have hn2 : (n : Int) = (mid.length : Int) + 3 := by omega
              have ca2 : w2.cell? ⟨g1, 0, none⟩ = some (.string ⟨a.toArray⟩) := HCW.out w2 (Below.refl _ _) 0 a hc00
              have HLAST : Hid (∀ W, Below w2.heap.size w2 W → W.cell? ⟨g1, mid.length + 1, none⟩ = some (.string ⟨last.toArray⟩)) := Lib.hid fun W hW => HCW.out W hW _ _ hcl1
              have HMID : Hid (∀ W, Below w2.heap.size w2 W → ∀ k (hk : k < mid.length), W.cell? ⟨g1, k + 1, none⟩ = some (.string ⟨mid[k].toArray⟩)) := Lib.hid fun W hW k hk => HCW.out W hW _ _ (HCM.out k hk)
              have HR3 : Hid (∀ i (hi : i < mid.length), flowOf mid[i] = none → r = .bad ⟨1, none⟩) := Lib.hid fun i hi hn => by rw [HR2.out, flowsOf_bad hi hn]; rfl
              have HSU : Hid (∀ i (hi : i < mid.length) L p, flowsOf (mid.take i) = some L → flowOf mid[i] = some p → flowsOf (mid.take (i + 1)) = some (L ++ [⟨p.1, ⟨p.2.1.toArray⟩, (p.2.2 : Int)⟩])) := Lib.hid fun i hi L p h1 h2 => flowsOf_succ hi h1 h2
              have HFL : Hid (∀ i, i ≤ mid.length → ((mid.take i).flatMap fun l => l ++ [10]).length ≤ (mid.flatMap fun l => l ++ [10]).length) := Lib.hid fun i _ => by
                conv => rhs; rw [← List.take_append_drop i mid, List.flatMap_append, List.length_append]
                omega
              have HFS : Hid (∀ i (hi : i < mid.length), ((mid.take (i + 1)).flatMap fun l => l ++ [10]).length = ((mid.take i).flatMap fun l => l ++ [10]).length + mid[i].length + 1) := Lib.hid fun i hi => by
                rw [List.take_succ_eq_append_getElem hi, List.flatMap_append]
                simp only [List.length_append, List.flatMap_cons, List.flatMap_nil, List.append_nil, List.length_singleton]
                omega
              obtain ⟨i0, hi0, hz0, hz1, hz2⟩ := info_parts info_flow
              have HSZ := Lib.hid hsz
              have HGLL := Lib.hid hgl
              clear HRH HRS HRR HSP HGL HPS HZ HCW hsp hmid hlast hsh hgl hcl hcl1 hc00 HHO HCM e1 hmn hsz HCN
              have hn1' : mid.length ≤ 19998 := by omega
              go_wp2_with fail
              clear ca2 e2
              go_loopw [10, 11, 12, 13, 14, 15, 16] (fun ov hv iv _ _ _ _ wr => ∃ (k : Nat) (L : List Fl), k ≤ mid.length ∧ iv = .int .i64 ((k : Int) + 1) ∧ hv = .int .i64 ((a.length + 1 + ((mid.take k).flatMap fun l => l ++ [10]).length : Nat) : Int) ∧ Hid (flowsOf (mid.take k) = some L ∧ L.length = k ∧ wr.ownsRow w2.heap.size 45 3 ov k (flsC L)) ∧ Hid (Below w2.heap.size w2 wr)) (fun _ _ iv _ _ _ _ _ => mid.length + 2 - (intOf iv).toNat)
              case atStart => exact ⟨0, [], Nat.zero_le _, rfl, by simp, Lib.hid ⟨rfl, rfl, World.ownsRow_nil _ _ _ _⟩, Lib.hid (Below.refl _ _)⟩
              case round =>
                obtain ⟨k, L, hk, rfl, rfl, hL, hb⟩ := hrel
                have hbs := hb.out.size
                have hb0r := hb02.trans (hb.out.mono hb02.size)
                by_cases hlt : k < mid.length
                · have hlt2 : (k : Int) + 1 < (n : Int) - 2 := by omega
                  have hkn : (k : Int) + 1 < (n : Int) := by omega
                  have hkt : ((k : Int) + 1).toNat = k + 1 := by omega
                  have cm := HMID.out wr hb.out k hlt
                  have htl := HPM.out k hlt
                  have hfl := HFL.out k hk
                  have HFSk := Lib.hid (HFS.out k hlt)
                  have HR3k := Lib.hid (HR3.out k hlt)
                  have HSUk := Lib.hid (HSU.out k hlt L)
                  have hszo := HSZ.out
                  have hfk : a.length + 1 + ((mid.take k).flatMap fun l => l ++ [10]).length ≤ 20000 := by omega
                  clear hfl hszo
                  generalize hfe : a.length + 1 + ((mid.take k).flatMap fun l => l ++ [10]).length = fk at *
                  have HFE : Hid (a.length + 1 + ((mid.take (k + 1)).flatMap fun l => l ++ [10]).length = fk + mid[k].length + 1) := Lib.hid (by rw [HFSk.out]; omega)
                  generalize mid[k] = t at *
                  have htz : (⟨t.toArray⟩ : ByteArray).size = t.length := by simp [ByteArray.size]
                  have HCT := Lib.hid (cut_any ⟨t.toArray⟩ 32 (by omega) wr)
                  rw [show (⟨t.toArray⟩ : ByteArray).data.toList = t from rfl] at HCT
                  have HPT := Lib.hid (fun p (hp : p ∈ cuts 32 t) => piece_size hp)
                  have HTL := Lib.hid (flowOf_len (a := t))
                  have HTN := Lib.hid (fun b x y => flowOf_three (a := t) (b := b) (x := x) (y := y))
                  have htne := cuts_ne 32 t
                  generalize cuts 32 t = ws at *
                  have hwn : 0 < ws.length := by
                    cases ws with
                    | nil => exact absurd rfl htne
                    | cons => simp
                  clear htz htne HFSk hfe
                  go_wp2_with fail
                  refine HCT.out.mono ?_
                  rintro e w3 ⟨v3, rfl, hv3, hb3⟩
                  obtain ⟨g3, cap3, rfl, hcap3, hg3, hgb3, hcell3⟩ := tx_cells hv3 hwn
                  have hb03 := hb0r.trans (hb3.mono hb0r.size)
                  have hb23 := hb.out.trans (hb3.mono hbs)
                  have HO : Hid (∀ W, Below w3.heap.size w3 W → W.ownsRow w2.heap.size 45 3 u10 L.length (flsC L)) := Lib.hid fun W hW => by
                    have := own_below (own_below hL.out.2.2 hb3) hW
                    rwa [hL.out.2.1]
                  have HLk := Lib.hid hL.out.2.1
                  have HL1 := Lib.hid hL.out.1
                  clear hv3 hL HCT cm
                  by_cases hw3 : ws.length = 3
                  · obtain ⟨b2, x2, y2, rfl⟩ := three_of hw3
                    have cb := hcell3 0 b2 rfl
                    have cx := hcell3 1 x2 rfl
                    have cy := hcell3 2 y2 rfl
                    have hbl := HPT.out b2 (by simp)
                    have hyl := HPT.out y2 (by simp)
                    have HF3 := Lib.hid (HTN.out b2 x2 y2 rfl)
                    clear hcell3 hw3 hwn HPT HTL HTN
                    by_cases hx0 : x2 = []
                    · subst hx0
                      have HQ := Lib.hid (HR3k.out (by rw [HF3.out, if_pos rfl]))
                      clear HF3
                      go_wp2_with fail
                      refine (bare_any _ _).mono ?_
                      rintro e wz ⟨rfl, hbz⟩
                      obtain ⟨c0, c1, f0, f1, hz, hbw⟩ := HBK.out _ (below_two hb03 hbz)
                      have HBW := Lib.hid hbw
                      clear hbw hbz
                      go_wp2
                      refine bodyPost_ret (v := .tuple #[.int .i64 0, .slice none 0 0, retFault (some ⟨1, none⟩)]) (by simp [results, Tryz.results15, go_sem, retFault, fCode, fAt, c0, c1]) rfl (carBad HQ.out rfl ?_)
                      exact (HBW.out.setCell (p := ⟨w.heap.size, 0, none⟩) (Nat.le_refl _) _).setCell (p := ⟨w.heap.size, 1, none⟩) (Nat.le_refl _) _
                    · have hxe : (x2 == []) = false := beq_false_of_ne hx0
                      have hys : (⟨y2.toArray⟩ : ByteArray).size = y2.length := by simp [ByteArray.size]
                      have HKY := Lib.hid (fun W => keyOf_any ⟨b2.toArray⟩ 16 (by omega) (by omega) W)
                      have HNY := Lib.hid (fun W => numberOf_any ⟨y2.toArray⟩ (by omega) W)
                      rw [show (⟨b2.toArray⟩ : ByteArray).data.toList = b2 from rfl] at HKY
                      rw [show (⟨y2.toArray⟩ : ByteArray).data.toList = y2 from rfl] at HNY
                      unfold NumIs at HNY
                      unfold KeyOfIs at HKY
                      have HF4 := Lib.hid (HF3.out.trans (if_neg hx0))
                      clear HF3 hys hx0 hbl hyl
                      generalize Hex.keyOf b2 16 = ko at *
                      cases ko with
                      | none =>
                        have HQ := Lib.hid (HR3k.out (by rw [HF4.out]))
                        clear HF4
                        go_wp2_with fail
                        refine (HKY.out w3).mono ?_
                        rintro e w4 ⟨rfl, rfl⟩
                        go_wp2_with fail
                        refine (HNY.out w3).mono ?_
                        rintro e w4 ⟨rfl, rfl⟩
                        go_wp2_with fail
                        refine (bare_any _ _).mono ?_
                        rintro e wz ⟨rfl, hbz⟩
                        obtain ⟨c0, c1, f0, f1, hz, hbw⟩ := HBK.out _ (below_two hb03 hbz)
                        have HBW := Lib.hid hbw
                        clear hbw hbz
                        go_wp2
                        refine bodyPost_ret (v := .tuple #[.int .i64 0, .slice none 0 0, retFault (some ⟨1, none⟩)]) (by simp [results, Tryz.results15, go_sem, retFault, fCode, fAt, c0, c1]) rfl (carBad HQ.out rfl ?_)
                        exact (HBW.out.setCell (p := ⟨w.heap.size, 0, none⟩) (Nat.le_refl _) _).setCell (p := ⟨w.heap.size, 1, none⟩) (Nat.le_refl _) _
                      | some kk =>
                        cases hny : numOf y2 with
                        | none =>
                          have HQ := Lib.hid (HR3k.out (by rw [HF4.out, hny]))
                          rw [numI_no hny] at HNY
                          clear HF4
                          go_wp2_with fail
                          refine (HKY.out w3).mono ?_
                          rintro e w4 ⟨rfl, rfl⟩
                          go_wp2_with fail
                          refine (HNY.out w3).mono ?_
                          rintro e w4 ⟨rfl, rfl⟩
                          go_wp2_with fail
                          refine (bare_any _ _).mono ?_
                          rintro e wz ⟨rfl, hbz⟩
                          obtain ⟨c0, c1, f0, f1, hz, hbw⟩ := HBK.out _ (below_two hb03 hbz)
                          have HBW := Lib.hid hbw
                          clear hbw hbz
                          go_wp2
                          refine bodyPost_ret (v := .tuple #[.int .i64 0, .slice none 0 0, retFault (some ⟨1, none⟩)]) (by simp [results, Tryz.results15, go_sem, retFault, fCode, fAt, c0, c1]) rfl (carBad HQ.out rfl ?_)
                          exact (HBW.out.setCell (p := ⟨w.heap.size, 0, none⟩) (Nat.le_refl _) _).setCell (p := ⟨w.heap.size, 1, none⟩) (Nat.le_refl _) _
                        | some nn =>
                          have hiy : numI y2 = (nn : Int) := by unfold numI; rw [hny]
                          rw [hiy] at HNY
                          have HN := Lib.hid (HSUk.out (kk, x2, nn) HL1.out (by rw [HF4.out, hny]))
                          clear HF4 hny hiy
                          have HB4 := Lib.hid ((Below.refl w3.heap.size w3).alloc (Nat.le_refl _) (.cells #[.int .u64 (kk : Int), .string ⟨x2.toArray⟩, .int .i64 (nn : Int)] 45))
                          have HB24 := Lib.hid (hb23.trans (HB4.out.mono hb23.size))
                          have hs23 := hb23.size
                          have hLn : L.length ≤ 20000 := by have := HLk.out; omega
                          go_wp2_with fail
                          refine (HKY.out w3).mono ?_
                          rintro e w4 ⟨rfl, rfl⟩
                          go_wp2_with fail
                          refine (HNY.out w3).mono ?_
                          rintro e w4 ⟨rfl, rfl⟩
                          clear HKY HNY
                          go_wp2_with (first
                            | (at_builtin
                               go_must (refine wpList_append_own _ rfl _ _ 22 rfl w2.heap.size 45 i0 _ 3 32 Tryz.underlying22 hi0 hz0 hz1 hz2 rfl (by decide) _ L.length (flsC L) rfl (HO.out _ HB4.out) ⟨w3.heap.size, 0, none⟩ 1 1 (flC ⟨kk, ⟨x2.toArray⟩, (nn : Int)⟩) rfl rfl (fl_cell1 w3 ⟨kk, ⟨x2.toArray⟩, (nn : Int)⟩) (flC_oneCell _) ?h1 ?h2 ?h3 ?_)
                               case h1 => simp only [maxLen]; omega
                               case h2 => omega
                               case h3 => simp; omega
                               intro v6 w6 hown6 hg6 _)
                            | fail)
                          have hown7 : w6.ownsRow w2.heap.size 45 3 v6 (k + 1) (flsC (L ++ [⟨kk, ⟨x2.toArray⟩, (nn : Int)⟩])) := by
                            rw [flsC_append, ← HLk.out]
                            simpa [flsC] using hown6
                          have hb6 := HB24.out.grown hg6 HB24.out.size (fun g e => ((HO.out _ HB4.out).lt g e).1)
                          go_roundw
                          case rel => exact ⟨k + 1, L ++ [⟨kk, ⟨x2.toArray⟩, (nn : Int)⟩], by omega, by norm_cast, by rw [HFE.out]; norm_cast, Lib.hid ⟨HN.out, by rw [List.length_append, List.length_singleton, HLk.out], hown7⟩, Lib.hid hb6⟩
                          case measure => simp [intOf]; omega
                  · have HQ := Lib.hid (HR3k.out (HTL.out hw3))
                    have hw3' : ¬ (ws.length : Int) = 3 := by omega
                    clear hcell3 HPT HTL HTN
                    generalize ws.length = wl at *
                    go_wp2_with fail
                    refine (bare_any _ _).mono ?_
                    rintro e wz ⟨rfl, hbz⟩
                    obtain ⟨c0, c1, f0, f1, hz, hbw⟩ := HBK.out _ (below_two hb03 hbz)
                    have HBW := Lib.hid hbw
                    clear hbw hbz
                    go_wp2
                    refine bodyPost_ret (v := .tuple #[.int .i64 0, .slice none 0 0, retFault (some ⟨1, none⟩)]) (by simp [results, Tryz.results15, go_sem, retFault, fCode, fAt, c0, c1]) rfl (carBad HQ.out rfl ?_)
                    exact (HBW.out.setCell (p := ⟨w.heap.size, 0, none⟩) (Nat.le_refl _) _).setCell (p := ⟨w.heap.size, 1, none⟩) (Nat.le_refl _) _
                · have hkm : k = mid.length := by omega
                  subst hkm
                  have hge : ¬ (mid.length : Int) + 1 < (n : Int) - 2 := by omega
                  have cl := HLAST.out wr hb.out
                  obtain ⟨hL1, hL2, hown⟩ := hL.out
                  rw [List.take_length] at hL1
                  have HR5 : Hid (r = restOf s.data.toList ex last (some L)) := Lib.hid (by rw [HR2.out, hL1])
                  obtain ⟨hmk, hLu⟩ := flowsOf_some hL1
                  have HLs : Hid (∀ x ∈ L, x.host.size ≤ maxLen) := Lib.hid fun x hx => by
                    have h1 : flowLine x ∈ mid := by rw [hmk]; exact List.mem_map_of_mem hx
                    obtain ⟨j, hj, hjx⟩ := List.mem_iff_getElem.1 h1
                    have h2 := HPM.out j hj
                    rw [hjx] at h2
                    have h3 := flow_host (x := x) rfl
                    unfold maxLen
                    omega
                  have hLn : L.length ≤ 20000 := by omega
                  have hszo := HSZ.out
                  have hAH : a.length + 1 + ((mid.take mid.length).flatMap fun l => l ++ [10]).length = s.data.toList.length - last.length - 1 := by
                    rw [List.take_length]; omega
                  generalize hfe : a.length + 1 + ((mid.take mid.length).flatMap fun l => l ++ [10]).length = fk at *
                  have hfs : fk ≤ s.size := by omega
                  have HAH := Lib.hid hAH
                  have hlz : (⟨last.toArray⟩ : ByteArray).size = last.length := by simp [ByteArray.size]
                  have HCT := Lib.hid (cut_any ⟨last.toArray⟩ 32 (by omega) wr)
                  rw [show (⟨last.toArray⟩ : ByteArray).data.toList = last from rfl] at HCT
                  have HPT := Lib.hid (fun p (hp : p ∈ cuts 32 last) => piece_size hp)
                  have HSY := Lib.hid (fun t => sumOf_words (l := last) (t := t))
                  have HSN := Lib.hid (sumOf_none (l := last))
                  have htne := cuts_ne 32 last
                  generalize cuts 32 last = ws at *
                  have hwn : 0 < ws.length := by
                    cases ws with
                    | nil => exact absurd rfl htne
                    | cons => simp
                  have HOW := Lib.hid hown
                  have HLU := Lib.hid hLu
                  have HL2 := Lib.hid hL2
                  clear htne hL1 hmk hLu hfe hAH hszo hlz HR2 HR3 HSU HFL HFS HMID HLAST hL2 hown hL
                  go_wp2_with fail
                  refine HCT.out.mono ?_
                  rintro e w3 ⟨v3, rfl, hv3, hb3⟩
                  obtain ⟨g3, cap3, rfl, hcap3, hg3, hgb3, hcell3⟩ := tx_cells hv3 hwn
                  have hb03 := hb0r.trans (hb3.mono hb0r.size)
                  have hb23 := hb.out.trans (hb3.mono hbs)
                  clear hv3 HCT cl
                  by_cases hw2 : ws.length = 2
                  · obtain ⟨b2, t2, rfl⟩ := two_of hw2
                    have cb := hcell3 0 b2 rfl
                    have ct := hcell3 1 t2 rfl
                    have htl := HPT.out t2 (by simp)
                    clear hcell3 hw2 hwn HPT
                    by_cases hbs3 : b2 = [115, 117, 109]
                    · subst hbs3
                      have HS := Lib.hid (HSY.out t2 rfl)
                      have HKY := Lib.hid (fun W => keyOf_any ⟨t2.toArray⟩ 8 (by omega) (by omega) W)
                      rw [show (⟨t2.toArray⟩ : ByteArray).data.toList = t2 from rfl] at HKY
                      unfold KeyOfIs at HKY
                      clear HSY HSN
                      generalize Hex.keyOf t2 8 = ko at *
                      cases ko with
                      | none =>
                        have HQ : Hid (r = .bad ⟨1, none⟩) := Lib.hid (by rw [HR5.out]; simp only [restOf, HS.out])
                        go_wp2_with fail
                        refine (HKY.out w3).mono ?_
                        rintro e w4 ⟨rfl, rfl⟩
                        go_wp2_with fail
                        refine (bare_any _ _).mono ?_
                        rintro e wz ⟨rfl, hbz⟩
                        obtain ⟨c0, c1, f0, f1, hz, hbw⟩ := HBK.out _ (below_two hb03 hbz)
                        have HBW := Lib.hid hbw
                        clear hbw hbz
                        go_wp2
                        refine bodyPost_ret (v := .tuple #[.int .i64 0, .slice none 0 0, retFault (some ⟨1, none⟩)]) (by simp [results, Tryz.results15, go_sem, retFault, fCode, fAt, c0, c1]) rfl (carBad HQ.out rfl ?_)
                        exact (HBW.out.setCell (p := ⟨w.heap.size, 0, none⟩) (Nat.le_refl _) _).setCell (p := ⟨w.heap.size, 1, none⟩) (Nat.le_refl _) _
                      | some v =>
                        obtain ⟨q, hq⟩ : ∃ q, q = Crc.sum (s.data.toList.take (s.data.toList.length - last.length - 1)) := ⟨_, rfl⟩
                        have HR6 : Hid (r = if v = q then (match checkOf (ex : Int) L with | some f => .bad f | none => .good ex L) else .bad ⟨9, none⟩) := Lib.hid (by rw [HR5.out]; simp only [restOf, HS.out]; rw [hq]; cases checkOf (ex : Int) L <;> rfl)
                        have HSM : Hid (∀ W, Calls Tryz.prog 33 #[.string (s.extract 0 fk)] W fun e w' => e = .returned (.int .u64 (q : Int)) ∧ W = w') := Lib.hid fun W => by
                          have h1 := refCrc_any (s.extract 0 fk) W (by rw [ByteArray.size_extract]; unfold maxLen; omega)
                          have h2 : (s.extract 0 fk).data.toList = s.data.toList.take (s.data.toList.length - last.length - 1) := by
                            rw [ByteArray.data_extract, Array.toList_extract, List.extract_eq_take_drop, HAH.out]
                            simp
                          rw [h2, ← hq] at h1
                          exact h1
                        clear HR5 HS hq
                        go_wp2_with fail
                        refine (HKY.out w3).mono ?_
                        rintro e w4 ⟨rfl, rfl⟩
                        clear HKY cb ct
                        go_wp2_with fail
                        refine (HSM.out w3).mono ?_
                        rintro e w4 ⟨rfl, rfl⟩
                        by_cases hvq : v = q
                        · subst hvq
                          have HR7 : Hid (r = match checkOf (ex : Int) L with | some f => .bad f | none => .good ex L) := Lib.hid (by rw [HR6.out, if_pos rfl])
                          have hown3 := own_below HOW.out hb3
                          rw [← HL2.out] at hown3
                          have HO := Lib.hid hown3
                          obtain ⟨A9, cp9, hu10, hrd, _⟩ := own_slice hown3
                          subst hu10
                          have HCF := Lib.hid (refCarFault_any (ex : Int) A9 cp9 w3.heap.size L w3 hrd (Nat.le_refl _) (by unfold maxLen; omega) HLs.out)
                          unfold FaultPost at HCF
                          clear hown3 hrd HSM HR6
                          have hL9 : (L.length : Int) = (mid.length : Int) := by rw [HL2.out]
                          clear hL9
                          cases hco : checkOf (ex : Int) L with
                          | some f =>
                            rw [hco] at HCF
                            have HQ : Hid (r = .bad f) := Lib.hid (by rw [HR7.out, hco])
                            have hfc : 0 < fCode (some f) := (checkOf_code' hco)
                            have HRF : Hid (retFault (some f) = .agg #[.int .i64 (fCode (some f) : Int), .int .i64 (fAt (some f))]) := Lib.hid rfl
                            clear hco
                            generalize fCode (some f) = fc at *
                            generalize fAt (some f) = fa at *
                            go_wp2_with fail
                            refine HCF.out.mono ?_
                            rintro e w5 ⟨rfl, hb5⟩
                            have hb05 := hb03.trans (hb5.mono hb03.size)
                            have hb06 := hb05.alloc hb05.size (.cells #[.int .i64 (fc : Int), .int .i64 fa] 31)
                            obtain ⟨c0, c1, f0, f1, hz, hbw⟩ := HBK.out _ hb06
                            have HBW := Lib.hid hbw
                            clear hbw hb05 hb06 hb5
                            go_wp2_with fail
                            go_region
                            all_goals
                              go_wp2
                              refine bodyPost_ret (v := .tuple #[.int .i64 0, .slice none 0 0, .agg #[.int .i64 (fc : Int), .int .i64 fa]]) (by simp [results, Tryz.results15, go_sem, c0, c1]) rfl (carBad HQ.out (by rw [HRF.out]) ?_)
                              exact bl_drew ((HBW.out.setCell (p := ⟨w.heap.size, 0, none⟩) (Nat.le_refl _) _).setCell (p := ⟨w.heap.size, 1, none⟩) (Nat.le_refl _) _)
                          | none =>
                            rw [hco] at HCF
                            have HQ : Hid (r = .good ex L) := Lib.hid (by rw [HR7.out, hco])
                            clear hco
                            have g0 : (fCode none : Int) = 0 := rfl
                            have g1 : fAt none = -1 := rfl
                            rw [g0, g1] at HCF
                            clear g0 g1
                            go_wp2_with fail
                            refine HCF.out.mono ?_
                            rintro e w5 ⟨rfl, hb5⟩
                            have hb05 := hb03.trans (hb5.mono hb03.size)
                            have hb06 := hb05.alloc hb05.size (.cells #[.int .i64 0, .int .i64 (-1)] 31)
                            obtain ⟨c0, c1, f0, f1, hz, hbw⟩ := HBK.out _ hb06
                            have HBW := Lib.hid hbw
                            have hw2s := (HBK.out _ hb02).2.2.2.2.1
                            have HO5 := Lib.hid (own_below HO.out (hb5.trans (((Below.refl w5.heap.size w5).alloc (Nat.le_refl _) (.cells #[.int .i64 0, .int .i64 (-1)] 31)).mono hb5.size)))
                            clear hbw hb05 hb06 hb5
                            go_wp2_with fail
                            go_region
                            all_goals
                              go_wp2
                              refine bodyPost_ret (v := .tuple #[.int .i64 (ex : Int), .slice A9 L.length cp9, retFault none]) (by simp [results, Tryz.results15, go_sem, retFault, fCode, fAt, c0, c1]) rfl ?_
                              rw [HQ.out]
                              refine ⟨.slice A9 L.length cp9, rfl, own_base ((((Turn.refl [w.heap.size] _).setCell (p := ⟨w.heap.size, 0, none⟩) (.inl (by simp)) _).setCell (p := ⟨w.heap.size, 1, none⟩) (.inl (by simp)) _).drew.own HO5.out (fun g hg => ?_)) (Nat.le_of_lt hw2s), bl_drew ((HBW.out.setCell (p := ⟨w.heap.size, 0, none⟩) (Nat.le_refl _) _).setCell (p := ⟨w.heap.size, 1, none⟩) (Nat.le_refl _) _)⟩
                              have := (HO5.out.lt g hg).1
                              simp
                              omega
                        · have hne : ¬ (v : Int) = (q : Int) := by omega
                          have HQ : Hid (r = .bad ⟨9, none⟩) := Lib.hid (by rw [HR6.out, if_neg hvq])
                          go_wp2_with fail
                          refine (bare_any _ _).mono ?_
                          rintro e wz ⟨rfl, hbz⟩
                          obtain ⟨c0, c1, f0, f1, hz, hbw⟩ := HBK.out _ (below_two hb03 hbz)
                          have HBW := Lib.hid hbw
                          clear hbw hbz
                          go_wp2
                          refine bodyPost_ret (v := .tuple #[.int .i64 0, .slice none 0 0, retFault (some ⟨9, none⟩)]) (by simp [results, Tryz.results15, go_sem, retFault, fCode, fAt, c0, c1]) rfl (carBad HQ.out rfl ?_)
                          exact (HBW.out.setCell (p := ⟨w.heap.size, 0, none⟩) (Nat.le_refl _) _).setCell (p := ⟨w.heap.size, 1, none⟩) (Nat.le_refl _) _
                    · have HQ : Hid (r = .bad ⟨1, none⟩) := Lib.hid (by rw [HR5.out]; simp only [restOf, HSN.out (fun ⟨t, ht⟩ => hbs3 (List.cons.inj ht).1)])
                      have hbb : (b2 == [115, 117, 109]) = false := beq_false_of_ne hbs3
                      clear HSY HSN
                      go_wp2_with fail
                      refine (bare_any _ _).mono ?_
                      rintro e wz ⟨rfl, hbz⟩
                      obtain ⟨c0, c1, f0, f1, hz, hbw⟩ := HBK.out _ (below_two hb03 hbz)
                      have HBW := Lib.hid hbw
                      clear hbw hbz
                      go_wp2
                      refine bodyPost_ret (v := .tuple #[.int .i64 0, .slice none 0 0, retFault (some ⟨1, none⟩)]) (by simp [results, Tryz.results15, go_sem, retFault, fCode, fAt, c0, c1]) rfl (carBad HQ.out rfl ?_)
                      exact (HBW.out.setCell (p := ⟨w.heap.size, 0, none⟩) (Nat.le_refl _) _).setCell (p := ⟨w.heap.size, 1, none⟩) (Nat.le_refl _) _
                  · have HQ : Hid (r = .bad ⟨1, none⟩) := Lib.hid (by rw [HR5.out]; simp only [restOf, HSN.out (fun ⟨t, ht⟩ => hw2 (by rw [ht]; rfl))])
                    have hw2' : ¬ (ws.length : Int) = 2 := by omega
                    clear hcell3 HPT HSY HSN
                    generalize ws.length = wl at *
                    go_wp2_with fail
                    refine (bare_any _ _).mono ?_
                    rintro e wz ⟨rfl, hbz⟩
                    obtain ⟨c0, c1, f0, f1, hz, hbw⟩ := HBK.out _ (below_two hb03 hbz)
                    have HBW := Lib.hid hbw
                    clear hbw hbz
                    go_wp2
                    refine bodyPost_ret (v := .tuple #[.int .i64 0, .slice none 0 0, retFault (some ⟨1, none⟩)]) (by simp [results, Tryz.results15, go_sem, retFault, fCode, fAt, c0, c1]) rfl (carBad HQ.out rfl ?_)
                    exact (HBW.out.setCell (p := ⟨w.heap.size, 0, none⟩) (Nat.le_refl _) _).setCell (p := ⟨w.heap.size, 1, none⟩) (Nat.le_refl _) _
            · have HQ := Lib.hid (HRS.out _ HHO.out (fun hc => hmn (by have := HCN.out; have := hc.1; simp only at this; omega)))
              have e1 : ((my : Int) != (n : Int) - 3) = true := bne_iff_ne.2 (by omega)
              go_wp2_with fail
              refine (bare_any _ _).mono ?_
              rintro e wz ⟨rfl, hbz⟩
              obtain ⟨c0, c1, f0, f1, hz, hbw⟩ := HBK.out _ (below_two hb02 hbz)
              have HBW := Lib.hid hbw
              clear hbw hbz
              go_wp2
              refine bodyPost_ret (v := .tuple #[.int .i64 0, .slice none 0 0, retFault (some ⟨1, none⟩)]) (by simp [results, Tryz.results15, go_sem, retFault, fCode, fAt, c0, c1]) rfl (carBad HQ.out rfl ?_)
              exact (HBW.out.setCell (p := ⟨w.heap.size, 0, none⟩) (Nat.le_refl _) _).setCell (p := ⟨w.heap.size, 1, none⟩) (Nat.le_refl _) _
      · have HQ := Lib.hid (HRH.out (HHF.out b x y rfl hbf))
        have hbb : (b == [102, 108, 111, 119, 115]) = false := beq_false_of_ne hbf
        go_wp2_with fail
        refine (bare_any _ _).mono ?_
        rintro e wz ⟨rfl, hbz⟩
        obtain ⟨c0, c1, f0, f1, hz, hbw⟩ := HBK.out _ (below_two hb02 hbz)
        have HBW := Lib.hid hbw
        clear hbw hbz
        go_wp2
        refine bodyPost_ret (v := .tuple #[.int .i64 0, .slice none 0 0, retFault (some ⟨1, none⟩)]) (by simp [results, Tryz.results15, go_sem, retFault, fCode, fAt, c0, c1]) rfl (carBad HQ.out rfl ?_)
        exact (HBW.out.setCell (p := ⟨w.heap.size, 0, none⟩) (Nat.le_refl _) _).setCell (p := ⟨w.heap.size, 1, none⟩) (Nat.le_refl _) _
    · have HQ := Lib.hid (HRH.out (HHL.out hs3))
      have hs3' : ¬ (hs.length : Int) = 3 := by omega
      clear hcell2 HPA HHL HHF HHN
      generalize hs.length = hl at *
      go_wp2_with fail
      refine (bare_any _ _).mono ?_
      rintro e wz ⟨rfl, hbz⟩
      obtain ⟨c0, c1, f0, f1, hz, hbw⟩ := HBK.out _ (below_two hb02 hbz)
      have HBW := Lib.hid hbw
      clear hbw hbz
      go_wp2
      refine bodyPost_ret (v := .tuple #[.int .i64 0, .slice none 0 0, retFault (some ⟨1, none⟩)]) (by simp [results, Tryz.results15, go_sem, retFault, fCode, fAt, c0, c1]) rfl (carBad HQ.out rfl ?_)
      exact (HBW.out.setCell (p := ⟨w.heap.size, 0, none⟩) (Nat.le_refl _) _).setCell (p := ⟨w.heap.size, 1, none⟩) (Nat.le_refl _) _
  · have HQ := Lib.hid (HL.out (fun hc => hzz hc.2))
    have hzb : (z == []) = false := beq_false_of_ne hzz
    go_wp2_with fail
    refine (bare_any _ _).mono ?_
    rintro e wz ⟨rfl, hbz⟩
    obtain ⟨c0, c1, f0, f1, hz, hbw⟩ := HBK.out _ (below_two hb1 hbz)
    have HBW := Lib.hid hbw
    clear hbw hbz
    go_wp2
    refine bodyPost_ret (v := .tuple #[.int .i64 0, .slice none 0 0, retFault (some ⟨1, none⟩)]) (by simp [results, Tryz.results15, go_sem, retFault, fCode, fAt, c0, c1]) rfl (carBad HQ.out rfl ?_)
    exact (HBW.out.setCell (p := ⟨w.heap.size, 0, none⟩) (Nat.le_refl _) _).setCell (p := ⟨w.heap.size, 1, none⟩) (Nat.le_refl _) _
theorem carryOf_any (s : ByteArray) (w : World) : Calls Tryz.prog 15 #[.string s] w (CarOf (readOf s.data.toList) w) := by
  by_cases h : 20000 < s.size
  · exact of_long s w h
  · exact of_rest s w h
end Go.Proofs.YtalfjaogpbndeaaGreatDoor
