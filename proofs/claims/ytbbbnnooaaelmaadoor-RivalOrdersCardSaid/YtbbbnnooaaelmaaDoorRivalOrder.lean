/-
  slices.SortStableFunc at texts by rival.Order's closure; rival.Order; rival.Host.
-/
import Derived.Test.YtbbbnnooaaelmaaDoorRival
import Derived.Test.YtbbbnnooaaelmaaDoorOwnRows
namespace Go.Proofs.YtbbbnnooaaelmaaDoor
open Go.RowKit Go.Shelf Go.Sort

/-- Texts that Go can have. -/
abbrev TxS := { s : ByteArray // s.size ≤ maxLen }
instance : Inhabited TxS := ⟨⟨ByteArray.empty, Nat.zero_le _⟩⟩
theorem lift_txs : ∀ l : List ByteArray, (∀ s ∈ l, s.size ≤ maxLen) → ∃ l' : List TxS, l'.map (·.1) = l
  | [], _ => ⟨[], rfl⟩
  | s :: l, h => by
      obtain ⟨l', hl⟩ := lift_txs l fun x hx => h x (List.mem_cons_of_mem _ hx)
      exact ⟨⟨s, h s List.mem_cons_self⟩ :: l', by simp [hl]⟩
def encT (x : TxS) : Value := .string x.1
theorem strV_txs (l : List TxS) : strV (l.map (·.1)) = l.map encT := by
  unfold strV
  rw [List.map_map]; rfl
def SortedS (B g n cap : Nat) (xs : List Value) (w : World) (e : Ending) (w' : World) : Prop :=
  e = .returned (.tuple #[]) ∧ w'.ownsRow B 9 1 (.slice (some ⟨g, 0, none⟩) n cap) n xs ∧ w.grownBy w' (some g)
theorem ins_order {B g n cap kb key : Nat} (l : List ByteArray) (w : World) (hl : ∀ s ∈ l, s.size ≤ maxLen) (hn : l.length = n) (hn2 : n ≤ 12) (ho : w.ownsRow B 9 1 (.slice (some ⟨g, 0, none⟩) n cap) n (strV (sortB l))) (hk : U64 key) (hK : Blk w kb 35 #[.int .u64 (key : Int)]) (hkg : kb ≠ g) :
    Calls Tryd.prog 99 #[.slice (some ⟨g, 0, none⟩) n cap, .int .i64 0, .int .i64 (n : Int), .func (.func 69) #[] #[.pointer (some ⟨kb, 0, none⟩)]] w (SortedS B g n cap (strV (orderB key l)) w) := by
  obtain ⟨hp, hs⟩ := isSort_sortB l
  obtain ⟨l', hl'⟩ := lift_txs (sortB l) fun s h => hl s (hp.mem_iff.1 h)
  have hlen : l'.length = n := by rw [← hn, ← sortB_length l, ← hl']; simp
  have eg : ∀ args w, (callFunc 69 args).run Tryd.prog w = .ok (.enter 69 args) w := enters_of Tryd.func69 (by kernel_rfl) rfl
  rw [← hl', strV_txs] at ho
  have hH : Holds encT w g 0 l'.toArray := holds_map encT (by simpa using own_holds ho)
  have hcmp : CmpReads Tryd.prog 69 #[.pointer (some ⟨kb, 0, none⟩)] encT (fun x y => cfR key x.1 y.1) g 0 l'.toArray.size w := by
    intro m os dk _ x y
    have hg : w.grownBy (sortWorld encT w g 0 m dk os) (some g) := by
      unfold sortWorld
      rw [putRow_map]
      exact grownBy_put _
    have hc := (hK.grown hg (fun e => hkg (Option.some.inj e))).cell 0
    exact order1_any x.1 y.1 kb key _ x.2 y.2 hk hc
  have hcon := Any.insertionSortCmpFunc_one Tryd.insStr encT (fun _ => rfl) (fun x y => cfR key x.1 y.1) 69 #[.pointer (some ⟨kb, 0, none⟩)] g 0 cap 0 n l'.toArray w eg hcmp hH (Nat.zero_le _) (by simp [hlen]) (by simp; omega)
  change Calls Tryd.prog 99 _ _ _ at hcon
  refine (by simpa [hlen] using hcon : Calls Tryd.prog 99 #[.slice (some ⟨g, 0, none⟩) n cap, .int .i64 0, .int .i64 (n : Int), .func (.func 69) #[] #[.pointer (some ⟨kb, 0, none⟩)]] w _).mono ?_
  rintro e w' ⟨rfl, q, rfl⟩
  obtain ⟨h1, h2, h3⟩ := stable_sort (ltOf fun x y : TxS => cfR key x.1 y.1) (fun x y => ltR key x.1 y.1) (fun x y => ltB x.1 y.1 = false) (fun x y h => ltR_eq key x.1 y.1 h)
    ⟨fun x => ltR_irrefl key x.1, fun _ _ _ h1 h2 => ltR_trans h1 h2, fun _ _ _ h1 h2 => ltR_ntrans h1 h2⟩ l' (by rw [← hl', List.pairwise_map] at hs; exact hs)
  rw [hlen] at h1 h2 h3
  have hord : (insertionSort (ltOf fun x y : TxS => cfR key x.1 y.1) l'.toArray 0 n).toList.map (·.1) = orderB key l := by
    refine IsOrder.unique (key := key) (l := l) ⟨?_, ?_⟩ (isOrder_orderB key l)
    · have := h2.map (·.1)
      rw [hl'] at this
      exact this.trans hp
    · rw [List.pairwise_map]; exact h3
  refine ⟨rfl, ?_⟩
  have hput := own_put (ys := strV (orderB key l)) ho (by rw [← hord]; simp [strV, h1, hlen]) q #[]
  rw [← hord, strV_txs] at hput
  rw [← sortWorld_none]
  unfold sortWorld
  rw [putRow_map, ← hord, strV_txs]
  have he : ((insertionSort (ltOf fun x y : TxS => cfR key x.1 y.1) l'.toArray 0 n).map encT) = ((insertionSort (ltOf fun x y : TxS => cfR key x.1 y.1) l'.toArray 0 n).toList.map encT).toArray := by rw [← Array.toList_map, Array.toArray_toList]
  rw [he]
  exact hput
set_option maxRecDepth 100000 in
set_option maxHeartbeats 1000000 in
theorem stable_order {B g n cap kb key : Nat} (l : List ByteArray) (w : World) (hl : ∀ s ∈ l, s.size ≤ maxLen) (hn : l.length = n) (hn2 : n ≤ 12) (ho : w.ownsRow B 9 1 (.slice (some ⟨g, 0, none⟩) n cap) n (strV (sortB l))) (hk : U64 key) (hK : Blk w kb 35 #[.int .u64 (key : Int)]) (hkg : kb ≠ g) :
    Calls Tryd.prog 84 #[.slice (some ⟨g, 0, none⟩) n cap, .int .i64 (n : Int), .func (.func 69) #[] #[.pointer (some ⟨kb, 0, none⟩)]] w (SortedS B g n cap (strV (orderB key l)) w) := by
  have HI := Lib.hid (ins_order l w hl hn hn2 ho hk hK hkg)
  have hi2 : (n : Int) ≤ 12 := by omega
  clear hl hn ho hK
  go_enter Tryd.func84, Tryd.ntmps84
  go_wp2_with fail
  go_loop [7, 8] (fun a b => a = .int .i64 0 ∧ b = .int .i64 20) (fun _ _ => 0)
  case atStart => exact ⟨rfl, rfl⟩
  case round =>
    obtain ⟨rfl, rfl⟩ := hrel
    go_wp2_with fail
    refine HI.out.mono ?_
    rintro e w1 ⟨rfl, ho1, hg1⟩
    go_wp2_with fail
    go_loop [6] (fun a => a = .int .i64 20) (fun _ => 0)
    case atStart => exact rfl
    case round =>
      subst hrel
      go_wp2
      go_end0
      exact ⟨rfl, ho1, hg1⟩
set_option maxRecDepth 100000 in
set_option maxHeartbeats 1000000 in
theorem sortStable_order {B g n cap kb key : Nat} (l : List ByteArray) (w : World) (hl : ∀ s ∈ l, s.size ≤ maxLen) (hn : l.length = n) (hn2 : n ≤ 12) (ho : w.ownsRow B 9 1 (.slice (some ⟨g, 0, none⟩) n cap) n (strV (sortB l))) (hk : U64 key) (hK : Blk w kb 35 #[.int .u64 (key : Int)]) (hkg : kb ≠ g) :
    Calls Tryd.prog 68 #[.slice (some ⟨g, 0, none⟩) n cap, .func (.func 69) #[] #[.pointer (some ⟨kb, 0, none⟩)]] w (SortedS B g n cap (strV (orderB key l)) w) := by
  have HI := Lib.hid (stable_order l w hl hn hn2 ho hk hK hkg)
  clear hl hn ho hK
  go_enter Tryd.func68, Tryd.ntmps68
  go_wp2_with fail
  refine HI.out.mono ?_
  rintro e w1 ⟨rfl, ho1, hg1⟩
  go_wp2
  go_end0
  exact ⟨rfl, ho1, hg1⟩

def orderFault (l : List ByteArray) : Option Flt := if l.length = 0 then some ⟨5, none⟩ else hostsFault l
/-- Rivals in order, or an error. -/
def OrderPost (ea : Nat → Addr) (l : List ByteArray) (key : Nat) (w : World) (e : Ending) (w' : World) : Prop := match orderFault l with
  | some f => SortedBad ea f w e w'
  | none => ∃ g cap, e = .returned (.tuple #[.slice (some ⟨g, 0, none⟩) l.length cap, .nilIface]) ∧ w'.ownsRow w.heap.size 9 1 (.slice (some ⟨g, 0, none⟩) l.length cap) l.length (strV (orderB key l)) ∧ Below w.heap.size w w'
structure TextsIn (w : World) (A : Option Addr) (c : Nat) (l : List ByteArray) : Prop where
  r : Reads w w.heap.size 1 A l.length (strV l)
  lc : l.length ≤ c
  lm : l.length ≤ maxLen
  s : ∀ s ∈ l, s.size ≤ maxLen
theorem TextsIn.below {w w' : World} {A : Option Addr} {c : Nat} {l : List ByteArray} (h : TextsIn w A c l) (hb : Below w.heap.size w w') : TextsIn w' A c l :=
  ⟨(h.r.below hb).more hb.size, h.lc, h.lm, h.s⟩
set_option maxRecDepth 100000 in
set_option maxHeartbeats 1000000 in
theorem order_any (ea : Nat → Addr) (A : Option Addr) (c : Nat) (l : List ByteArray) (key : Nat) (w : World) (hE : ErrsR ea w) (hI : TextsIn w A c l) (hk : U64 key) :
    Calls Tryd.prog 19 #[.slice A l.length c, .int .u64 (key : Int)] w (OrderPost ea l key w) := by
  have hbK : Below w.heap.size w (w.alloc (.cells #[.int .u64 (key : Int)] 35)) := (Below.refl _ _).alloc (Nat.le_refl _) _
  have hlm := hI.lm
  unfold maxLen at hlm
  by_cases h0 : l.length = 0
  · have HP : Hid (∀ e w', SortedBad ea ⟨5, none⟩ w e w' → OrderPost ea l key w e w') := Lib.hid fun e w' h => by
      unfold OrderPost orderFault; rw [if_pos h0]; exact h
    have z0 : ((l.length : Int) == 0) = true := beq_iff_eq.2 (by omega)
    have z1 : l = [] := List.eq_nil_of_length_eq_zero h0
    have c5 := (hE.below hbK).c5
    dsimp only [gv] at c5
    subst z1
    clear hE hI h0
    go_enter Tryd.func19, Tryd.ntmps19
    go_wp2
    go_quiet (fail)
    go_wp2
    go_ret2
    exact HP.out _ _ ⟨_, _, rfl, ⟨rfl, rfl⟩, below_drewN hbK _⟩
  have z0 : ((l.length : Int) == 0) = false := beq_eq_false_iff_ne.2 (by omega)
  have z1 : ¬ l = [] := fun e => by simp [e] at h0
  cases hf : hostsFault l with
  | some f =>
    have HP : Hid (∀ e w', SortedBad ea f w e w' → OrderPost ea l key w e w') := Lib.hid fun e w' h => by
      unfold OrderPost orderFault; rw [if_neg h0, hf]; exact h
    have HS := Lib.hid (mixSorted_bad ea A c l f _ (hE.below hbK).e3 (hI.below hbK).r hI.lc hI.lm hI.s hf)
    have HB := Lib.hid hbK
    clear hE hI h0 hf
    go_enter Tryd.func19, Tryd.ntmps19
    go_wp2_with fail
    refine HS.out.mono ?_
    rintro e w1 ⟨t, a, rfl, hX, hb1⟩
    go_wp2
    go_ret2
    exact HP.out _ _ ⟨t, a, rfl, hX, below_two HB.out hb1⟩
  | none =>
    obtain ⟨h12, _, _⟩ := hostsFault_none.1 hf
    have HP : Hid (∀ e w', (∃ g cap, e = .returned (.tuple #[.slice (some ⟨g, 0, none⟩) l.length cap, .nilIface]) ∧ w'.ownsRow w.heap.size 9 1 (.slice (some ⟨g, 0, none⟩) l.length cap) l.length (strV (orderB key l)) ∧ Below w.heap.size w w') → OrderPost ea l key w e w') := Lib.hid fun e w' h => by
      unfold OrderPost orderFault; rw [if_neg h0, hf]; exact h
    have HS := Lib.hid (mixSorted_ok ea A c l _ (hE.below hbK).e3 (hI.below hbK).r hI.lc hI.lm hI.s hf)
    have HB := Lib.hid hbK
    have HK := Lib.hid (Blk.new w 35 #[.int .u64 (key : Int)])
    have HSO := Lib.hid (fun (g cap : Nat) (W : World) ho hK hkg => sortStable_order (B := w.heap.size + 1) (g := g) (cap := cap) (kb := w.heap.size) l W hI.s rfl h12 ho hk hK hkg)
    clear hE hI hf
    go_enter Tryd.func19, Tryd.ntmps19
    go_wp2_with fail
    refine HS.out.mono ?_
    rintro e w1 ⟨A1, c1, rfl, ho1, hb1⟩
    obtain ⟨g, cap', hv, _, _⟩ := ho1.form (by omega)
    have hA : A1 = some ⟨g, 0, none⟩ := by injection hv
    subst hA
    rw [World.size_alloc] at ho1
    have hgl : w.heap.size + 1 ≤ g := (ho1.lt g rfl).1
    have hK1 : Blk w1 w.heap.size 35 #[.int .u64 (key : Int)] := HK.out.below hb1 (by simp)
    have HSS := Lib.hid (HSO.out g c1 w1 ho1 hK1 (by omega))
    have HB1 := Lib.hid (below_two HB.out hb1)
    clear hv ho1 hK1
    go_wp2_with fail
    refine HSS.out.mono ?_
    rintro e w2 ⟨rfl, ho2, hg2⟩
    have hb2 := HB1.out.grown hg2 HB1.out.size (fun k e => by cases e; omega)
    have ho3 := ho2.mono (show w.heap.size ≤ w.heap.size + 1 by omega)
    go_wp2
    go_ret2
    exact HP.out _ _ ⟨g, c1, rfl, ho3, hb2⟩
end Go.Proofs.YtbbbnnooaaelmaaDoor
