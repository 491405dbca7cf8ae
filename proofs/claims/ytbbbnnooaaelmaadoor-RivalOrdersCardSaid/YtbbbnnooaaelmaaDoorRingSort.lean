/-
  A ring's points are sorted: the closure, and slices.SortFunc.
-/
import Derived.Test.YtbbbnnooaaelmaaDoorCmp
import Derived.Test.YtbbbnnooaaelmaaDoorOwnRows
import Derived.Test.YtbbbnnooaaelmaaDoorShelf
namespace Go.Proofs.YtbbbnnooaaelmaaDoor
open Go.RowKit Go.Sort Go.Shelf

def encPt (p : Pt) : List Value := [.int .u64 (p.at_ : Int), .string p.host]
def GrowPost (v : Int) (W : World) (e : Ending) (w' : World) : Prop := e = .returned (.int .i64 v) ∧ ∃ q os', w' = grow (W.drewN q) os'
set_option maxRecDepth 100000 in
set_option maxHeartbeats 2000000 in
theorem closure_pt (x y : Pt) (W : World) : Calls Tryd.prog 76 #[.agg #[.int .u64 (x.at_ : Int), .string x.host], .agg #[.int .u64 (y.at_ : Int), .string y.host]] W (GrowPost (cfP x y) W) := by
  have HO : ∀ (W' : World), Hid (Calls Tryd.prog 77 #[.slice (some ⟨W'.heap.size, 0, none⟩) 2 2] (W'.alloc (.cells #[.int .i64 (cmpN x.at_ y.at_), .int .i64 (cmpS x.host y.host)] 3)).drew (IntQ (cfP x y) (W'.alloc (.cells #[.int .i64 (cmpN x.at_ y.at_), .int .i64 (cmpS x.host y.host)] 3)).drew)) := fun W' => by
    have hB := Blk.new W' 3 #[.int .i64 (cmpN x.at_ y.at_), .int .i64 (cmpS x.host y.host)]
    exact Lib.hid (or_two _ _ _ _ (hB.cell 0) (hB.cell 1))
  have HC := fun W' => Lib.hid (cmp_u64 x.at_ y.at_ W')
  have HS := fun W' => Lib.hid (cmp_str x.host y.host W')
  generalize cmpN x.at_ y.at_ = c1 at *
  generalize cmpS x.host y.host = c2 at *
  generalize cfP x y = c3 at *
  obtain ⟨ax, hx⟩ := x
  obtain ⟨ay, hy⟩ := y
  dsimp only at *
  go_enter Tryd.func76, Tryd.ntmps76
  go_wp2_with fail
  have hb0 : Blk ((W.alloc (.cells #[.int .u64 (ax : Int), .string hx] 113)).alloc (.cells #[.int .u64 (ay : Int), .string hy] 113)) W.heap.size 113 #[.int .u64 (ax : Int), .string hx] := (Blk.new W _ _).alloc _
  have hb1 : Blk ((W.alloc (.cells #[.int .u64 (ax : Int), .string hx] 113)).alloc (.cells #[.int .u64 (ay : Int), .string hy] 113)) (W.heap.size + 1) 113 #[.int .u64 (ay : Int), .string hy] := by
    have := Blk.new (W.alloc (.cells #[.int .u64 (ax : Int), .string hx] 113)) 113 #[.int .u64 (ay : Int), .string hy]
    simpa using this
  have HG : Hid (∃ os, (W.alloc (.cells #[.int .u64 (ax : Int), .string hx] 113)).alloc (.cells #[.int .u64 (ay : Int), .string hy] 113) = grow W os) := Lib.hid ⟨_, by rw [alloc_eq_grow, alloc_eq_grow, grow_grow]⟩
  generalize (W.alloc (.cells #[.int .u64 (ax : Int), .string hx] 113)).alloc (.cells #[.int .u64 (ay : Int), .string hy] 113) = W0 at *
  have k0 : W0.cell? ⟨W.heap.size, 0, none⟩ = some (.int .u64 (ax : Int)) := hb0.cell 0
  have k1 : W0.cell? ⟨W.heap.size, 1, none⟩ = some (.string hx) := hb0.cell 1
  have k2 : W0.cell? ⟨W.heap.size + 1, 0, none⟩ = some (.int .u64 (ay : Int)) := hb1.cell 0
  have k3 : W0.cell? ⟨W.heap.size + 1, 1, none⟩ = some (.string hy) := hb1.cell 1
  clear hb0 hb1
  go_region_held3 (fun w' => w'.cell? ⟨W.heap.size, 0, none⟩ = some (.int .u64 (ax : Int)) ∧ w'.cell? ⟨W.heap.size, 1, none⟩ = some (.string hx) ∧ w'.cell? ⟨W.heap.size + 1, 0, none⟩ = some (.int .u64 (ay : Int)) ∧ w'.cell? ⟨W.heap.size + 1, 1, none⟩ = some (.string hy)) (first | exact ⟨k0, k1, k2, k3⟩ | go_keep)
    (first
      | (go_at_call 70; refine (HC _).out.mono ?_; rintro e w1 ⟨rfl, rfl⟩)
      | (go_at_call 78; refine (HS _).out.mono ?_; rintro e w1 ⟨rfl, rfl⟩)
      | (go_at_call 77; go_must (refine (HO _).out.mono ?_); rintro e w1 ⟨rfl, rfl⟩))
  go_wp2
  go_ret
  obtain ⟨os, hos⟩ := HG.out
  exact ⟨rfl, 1, _, by rw [hos, alloc_eq_grow, grow_grow]; rfl⟩

theorem lt_cf (x y : Pt) : ltOf cfP x y = ltP x y := by
  unfold ltOf cfP cmpN cmpS ltP
  by_cases h1 : x.at_ < y.at_
  · simp [h1]
  · by_cases h2 : y.at_ < x.at_
    · have : ¬ x.at_ = y.at_ := by omega
      simp [h1, h2, this]
    · have e : x.at_ = y.at_ := by omega
      cases h3 : ltB x.host y.host with
      | true => simp [e]
      | false =>
        cases h4 : ltB y.host x.host <;> simp [e]
theorem swo_pt : SWO (ltOf cfP) where
  irrefl x := by rw [lt_cf]; exact ltP_irrefl x
  trans x y z h1 h2 := by rw [lt_cf] at *; exact ltP_trans h1 h2
  ntrans x y z h1 h2 := by rw [lt_cf] at *; exact ltP_ntrans h1 h2
def flatP (l : List Pt) : List Value := l.flatMap encPt
theorem flatP_length : ∀ l : List Pt, (flatP l).length = l.length * 2
  | [] => rfl
  | p :: l => by
      have : (flatP (p :: l)).length = (flatP l).length + 2 := by simp [flatP, encPt]
      rw [this, flatP_length l, List.length_cons]; omega
theorem flatP_get : ∀ (l : List Pt) (j : Nat), (flatP l)[j]? = (l[j / 2]?).bind fun p => (encPt p)[j % 2]?
  | [], j => by simp [flatP]
  | p :: l, 0 => rfl
  | p :: l, 1 => rfl
  | p :: l, j + 2 => by
      have e : (flatP (p :: l))[j + 2]? = (flatP l)[j]? := rfl
      rw [e, flatP_get l j, show (j + 2) / 2 = j / 2 + 1 by omega, show (j + 2) % 2 = j % 2 by omega]
      rfl
theorem flatK_pt (l : List Pt) : flatK encPt 2 l.toArray = (flatP l).toArray := by
  apply Array.ext
  · simp [flatP_length]
  · intro i h1 h2
    have hi : i < l.length * 2 := by simpa using h1
    have hd : i / 2 < l.length := by omega
    have hg := flatP_get l i
    rw [List.getElem?_eq_getElem hd] at hg
    have hm : i % 2 < (encPt l[i / 2]).length := by simp [encPt]; omega
    simp only [Option.bind_some, List.getElem?_eq_getElem hm] at hg
    have h3 : i < (flatP l).length := by rw [flatP_length]; exact hi
    rw [List.getElem?_eq_getElem h3] at hg
    have hg' := Option.some.inj hg
    simp only [flatK, Array.getElem_map, Array.getElem_range, List.getElem_toArray]
    rw [hg']
    have e1 : l.toArray[i / 2]! = l[i / 2] := by simp [hd]
    rw [e1, getElem!_pos (encPt l[i / 2]) (i % 2) hm]
theorem flatK_arr (d : Array Pt) : flatK encPt 2 d = (flatP d.toList).toArray := by
  have := flatK_pt d.toList
  simpa using this
def SortPost (B g n cap : Nat) (pts : List Pt) (w : World) (e : Ending) (w' : World) : Prop :=
  e = .returned (.tuple #[]) ∧ ∃ s, IsSort pts s ∧ w'.ownsRow B 113 2 (.slice (some ⟨g, 0, none⟩) n cap) n (flatP s) ∧ w.grownBy w' (some g)
theorem sort_points {B g n cap : Nat} {pts : List Pt} (w : World) (ho : w.ownsRow B 113 2 (.slice (some ⟨g, 0, none⟩) n cap) n (flatP pts)) (hn : n < 4611686018427387904) :
    Calls Tryd.prog 75 #[.slice (some ⟨g, 0, none⟩) n cap, .func (.func 76) #[] #[]] w (SortPost B g n cap pts w) := by
  have hl : pts.length = n := by have := ho.1; rw [flatP_length] at this; omega
  subst hl
  have eg : ∀ args w, (callFunc 76 args).run Tryd.prog w = .ok (.enter 76 args) w := enters_of Tryd.func76 (by kernel_rfl) rfl
  have hcmp : CmpLays Tryd.prog 76 #[] encPt 2 cfP g 0 pts.toArray.size w := fun _ _ _ _ x y => closure_pt x y _
  have hH : HoldsK encPt 2 w g 0 pts.toArray := by
    unfold HoldsK
    rw [flatK_pt]
    exact own_holds ho
  have hcon := AnyQ.slices_SortFunc Tryd.sortPoint 2 Tryd.isAgg113 Tryd.sizeOf113 encPt (fun _ => rfl) (fun x v hv => by simp [encPt] at hv; rcases hv with rfl | rfl <;> rfl) cfP swo_pt 76 #[] g 0 cap pts.toArray w eg hcmp hH (ho.lt g rfl).2 (by simpa using hn)
  change Calls Tryd.prog 75 _ _ _ at hcon
  refine (by simpa using hcon : Calls Tryd.prog 75 #[.slice (some ⟨g, 0, none⟩) pts.length cap, .func (.func 76) #[] #[]] w _).mono ?_
  rintro e w' ⟨rfl, d', hp, hs, n, os, rfl⟩
  have hsz : d'.size = pts.length := by simpa using hp.1
  have hperm : d'.toList.Perm pts := by
    have := hp.2.2
    simp at this
    rwa [List.take_of_length_le (by simp [hsz])] at this
  have hsort : d'.toList.Pairwise fun a b => ltP b a = false := by
    rw [List.pairwise_iff_getElem]
    intro i j hi hj hij
    have := hs i j (Nat.zero_le _) hij (by simpa [hsz] using hj)
    rw [lt_cf] at this
    simp only [Array.length_toList] at hi hj
    rw [getElem!_pos d' j hj, getElem!_pos d' i hi] at this
    simpa using this
  refine ⟨rfl, d'.toList, ⟨hperm, hsort⟩, ?_⟩
  have := own_put (ys := flatP d'.toList) ho (by rw [flatP_length, flatP_length, hperm.length_eq]) n os
  unfold sortWorldK putRowK
  rw [flatK_arr]
  exact this
end Go.Proofs.YtbbbnnooaaelmaaDoor
