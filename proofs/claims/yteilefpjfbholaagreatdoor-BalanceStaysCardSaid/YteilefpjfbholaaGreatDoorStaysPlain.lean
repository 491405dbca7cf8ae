/-
  A key stays with its host: in plain words.
-/
import Derived.Test.YteilefpjfbholaaGreatDoorBalNow
import Derived.Test.YteilefpjfbholaaGreatDoorBalCarry
namespace Go.Proofs.YteilefpjfbholaaGreatDoor
open Go.RowKit

/-- What stands while a key stays with its host: t is its last tick. -/
structure SInv (c : BCfg) (key : Nat) (mine : ByteArray) (n cnt : Nat) (t : Int) (E : Nat) (s : BS) : Prop where
  rise : Rise s.fs.2
  len : s.fs.2.length ≤ cnt
  last : s.fs.1 ≤ n
  ep : s.epoch = E
  nd : s.nd ≤ cnt
  fl : ∀ y ∈ s.fs.2, y.host ∈ c.hosts ∧ 0 ≤ y.til ∧ y.til ≤ (n : Int) + c.time
  up : upOf s.st mine = true
  own : ∃ y, findF s.fs.2 key = some y ∧ y.host = mine ∧ y.til = t
section
variable {c : BCfg} {key n n' cnt cnt' k E : Nat} {mine : ByteArray} {t : Int} {s : BS}
theorem SInv.more (h : SInv c key mine n cnt t E s) (h1 : n ≤ n') (h2 : cnt ≤ cnt') : SInv c key mine n' cnt' t E s :=
  ⟨h.rise, Nat.le_trans h.len h2, Nat.le_trans h.last h1, h.ep, Nat.le_trans h.nd h2, fun y hy => ⟨(h.fl y hy).1, (h.fl y hy).2.1, by have := (h.fl y hy).2.2; omega⟩, h.up, h.own⟩
theorem hostOpen_of {c : BCfg} {s : BS} (hs : hosts s.st = c.hosts) {z : ByteArray} (hz : z ∈ openOf s) : z ∈ c.hosts := by
  unfold openOf at hz
  rw [← hs]
  exact (ups_sub s.st).subset (List.mem_filter.1 hz).1
theorem putF_any {L : List Fl} {z y : Fl} (h : y ∈ putF L z) : y = z ∨ y ∈ L := by
  unfold putF at h
  rcases mem_insF.1 h with h | h
  · exact .inl h
  · have h1 : y ∈ roomF L z.key := delF_mem h
    unfold roomF at h1
    split at h1
    · exact .inr h1
    · exact .inr (delF_mem h1)
theorem size_pos {c : BCfg} (hO : BOk c) : 0 < c.size := by
  have := hO.tf
  unfold tableFault at this
  rw [if_neg (by have := hO.h0; omega), hO.hf] at this
  rcases Nat.eq_zero_or_pos c.size with h0 | h0
  · rw [h0] at this
    simp [sizeFault] at this
  · exact h0
/-- The flow's own host is kept. -/
theorem SInv.kept (h : SInv c key mine n cnt t E s) (ht : (n' : Int) < t) : keptOf s key n' = some mine := by
  obtain ⟨y, hf, hy, hyt⟩ := h.own
  have hg : getF s.fs.2 key n' = some mine := by
    unfold getF
    rw [hf]
    show (if y.til ≤ (n' : Int) then none else some y.host) = some mine
    rw [if_neg (by omega), hy]
  unfold keptOf
  rw [hg]
  exact if_pos h.up
/-- It is picked again. -/
theorem SInv.again (h : SInv c key mine n cnt t E s) (hn : n ≤ n') (hn2 : n' ≤ 1000) (ht : (n' : Int) < t) (hc : cnt < 200) :
    ∃ s', pickS c s key n' = ((mine, true, 0), s') ∧ SInv c key mine n' (cnt + 1) ((n' : Int) + c.time) E s' := by
  obtain ⟨y, hf, hy, _⟩ := h.own
  have hm : mine ∈ c.hosts := by rw [← hy]; exact (h.fl y (findF_some hf).1).1
  have hl : s.fs.2.length < 200 := Nat.lt_of_le_of_lt h.len hc
  refine ⟨{ s with fs := (n', putF s.fs.2 ⟨key, mine, (n' : Int) + c.time⟩) }, ?_, rise_put h.rise _, Nat.le_trans (put_len hl) (Nat.succ_le_succ h.len), Nat.le_refl _, h.ep, Nat.le_succ_of_le h.nd, fun z hz => ?_, h.up, ⟨_, put_same h.rise _, rfl, rfl⟩⟩
  · unfold pickS
    rw [if_pos (tick_zero (Nat.le_trans h.last hn) (by omega)), h.kept ht, Int.toNat_natCast]
  · rcases putF_any hz with rfl | hz
    · exact ⟨hm, by show (0 : Int) ≤ (n' : Int) + c.time; omega, Int.le_refl _⟩
    · exact ⟨(h.fl z hz).1, (h.fl z hz).2.1, by have := (h.fl z hz).2.2; omega⟩
/-- Another key, or the same, is picked: the code is not asked. -/
theorem SInv.pick (h : SInv c key mine n cnt t E s) (hO : BOk c) (hs : hosts s.st = c.hosts) (hn : n ≤ 1000) (ht : (n : Int) < t) (ht2 : t = (n : Int) + c.time) (hc : cnt < 200) (k : Nat) : SInv c key mine n (cnt + 1) t E (pickS c s k n).2 := by
  by_cases hk : k = key
  · subst hk
    obtain ⟨s', hp, hi⟩ := h.again (Nat.le_refl _) hn ht hc
    rw [hp, ht2]
    exact hi
  have hl : s.fs.2.length < 200 := Nat.lt_of_le_of_lt h.len hc
  have hput : ∀ z, z ∈ c.hosts → SInv c key mine n (cnt + 1) t E { s with fs := (n, putF s.fs.2 ⟨k, z, (n : Int) + c.time⟩) } := fun z hz => by
    obtain ⟨y, hf, hy, hyt⟩ := h.own
    refine ⟨rise_put h.rise _, Nat.le_trans (put_len hl) (Nat.succ_le_succ h.len), Nat.le_refl _, h.ep, Nat.le_succ_of_le h.nd, fun y hy => ?_, h.up, ⟨y, put_other h.rise hl (Ne.symm hk) hf, hy, hyt⟩⟩
    rcases putF_any hy with rfl | hy
    · exact ⟨hz, by show (0 : Int) ≤ (n : Int) + c.time; omega, Int.le_refl _⟩
    · exact h.fl y hy
  unfold pickS
  rw [if_pos (tick_zero h.last (by omega)), Int.toNat_natCast]
  cases hkk : keptOf s k n with
  | some z =>
    refine hput z ?_
    unfold keptOf at hkk
    cases hg : getF s.fs.2 k n with
    | none => rw [hg] at hkk; cases hkk
    | some u =>
      rw [hg] at hkk
      dsimp only at hkk
      split at hkk
      · obtain rfl := Option.some.inj hkk
        have := upOf_mem (by assumption : upOf s.st u = true)
        rw [hs] at this
        exact this
      · cases hkk
  | none =>
    dsimp only
    split
    · exact ⟨h.rise, Nat.le_succ_of_le h.len, Nat.le_refl _, h.ep, Nat.le_succ_of_le h.nd, h.fl, h.up, h.own⟩
    · rename_i ho
      have hsub : (openOf s).Sublist c.hosts := by
        rw [← hs]
        unfold openOf
        exact (List.filter_sublist).trans (ups_sub s.st)
      have htf := sub_table hO.tf hsub (List.length_pos_iff.2 ho)
      have h0 : 0 < c.size := size_pos hO
      exact hput _ (hostOpen_of hs (hostAt_mem ho htf (Nat.mod_lt _ h0)))
/-- A host is drained. -/
theorem SInv.drain (h : SInv c key mine n cnt t E s) (f : ByteArray → Bool) : SInv c key mine n (cnt + 1) t E { s with dr := f, nd := s.nd + 1 } :=
  ⟨h.rise, Nat.le_succ_of_le h.len, h.last, h.ep, Nat.succ_le_succ h.nd, h.fl, h.up, h.own⟩
theorem upOf_look {fall rise : Nat} {st : List St} {x z : ByteArray} {well : Bool} (hne : x ≠ z) : upOf (lookAll st (idx (hosts st) z) fun q => lookSt fall rise q well).1 x = upOf st x := by
  by_cases hm : z ∈ hosts st
  · obtain ⟨k, hk, hi, hg⟩ := idx_mem hm
    have hk2 : k < st.length := by rw [hosts_len] at hk; exact hk
    have hsk : st[k]? = some st[k] := List.getElem?_eq_getElem hk2
    have e : lookAll st (idx (hosts st) z) (fun q => lookSt fall rise q well) = (st.set k (lookSt fall rise st[k] well).1, (lookSt fall rise st[k] well).2) := by
      unfold lookAll
      rw [hi, if_neg (by omega), Int.toNat_natCast, hsk]
    rw [e]
    have hh : hosts (st.set k (lookSt fall rise st[k] well).1) = hosts st := set_same_host hsk lookSt_host
    unfold upOf
    dsimp only
    rw [hh]
    cases hx : idx (hosts st) x with
    | negSucc _ => rfl
    | ofNat j =>
      dsimp only
      have hjk : k ≠ j := by
        rintro rfl
        by_cases hxm : x ∈ hosts st
        · obtain ⟨j', _, hj', hg'⟩ := idx_mem hxm
          rw [hx] at hj'
          have : k = j' := by
            have h2 : ((k : Nat) : Int) = (j' : Int) := hj'
            omega
          subst this
          rw [hg] at hg'
          exact hne (Option.some.inj hg').symm
        · rw [idx_miss (fun u hu e => hxm (by rw [e]; exact hu))] at hx
          cases hx
      rw [List.getElem?_set_ne hjk]
  · have hi : idx (hosts st) z = -1 := idx_miss fun u hu e => hm (by rw [e]; exact hu)
    have e : lookAll st (idx (hosts st) z) (fun q => lookSt fall rise q well) = (st, false) := by
      unfold lookAll
      rw [hi, if_pos (by decide)]
    rw [e]
/-- Another host is looked at. -/
theorem SInv.look (h : SInv c key mine n cnt t E s) {z : ByteArray} (hz : mine ≠ z) (well : Bool) : SInv c key mine n cnt t E (lookB c s z well).2 := by
  have hup : upOf (lookR1 c s z well).1 mine = true := by
    unfold lookR1
    rw [upOf_look hz, h.up]
  unfold lookB
  dsimp only
  split
  · obtain ⟨y, hf, hy, hyt⟩ := h.own
    refine ⟨h.rise.filter _, Nat.le_trans (List.length_filter_le _ _) h.len, h.last, h.ep, h.nd, fun y hy => h.fl y (List.mem_filter.1 hy).1, hup, ⟨y, ?_, hy, hyt⟩⟩
    refine (findF_iff (h.rise.filter _)).2 ⟨List.mem_filter.2 ⟨(findF_some hf).1, ?_⟩, (findF_some hf).2⟩
    rw [hy]
    simpa using hz
  · exact ⟨h.rise, h.len, h.last, h.ep, h.nd, h.fl, hup, h.own⟩
theorem SInv.check (h : SInv c key mine n cnt t E s) (hO : BOk c) (hc : cnt ≤ 200) (hn : n ≤ 1000000) (e : Int) (h0 : 0 ≤ e) (h1 : e ≤ 1000000) : checkOf e s.fs.2 = none :=
  checkOf_ok h0 (by omega) (Nat.le_trans h.len hc) (fun y hy => ⟨(hostsFault_none.1 hO.hf).2.1 _ (h.fl y hy).1, (h.fl y hy).2.1, by have := (h.fl y hy).2.2; have := hO.t2; omega⟩) h.rise
/-- All is carried over to one that has nothing. -/
theorem SInv.over (h : SInv c key mine n cnt t E s) (hO : BOk c) (hc : cnt ≤ 200) (hn : n ≤ n') (ht : (n' : Int) < t) (e : Nat) :
    SInv c key mine n' cnt t e { newS c with fs := (n', addF n' (newS c).fs.2 (s.fs.2.filter fun y => upOf (newS c).st y.host)), epoch := e } := by
  have e1 : s.fs.2.filter (fun y => upOf (newS c).st y.host) = s.fs.2 := List.filter_eq_self.2 fun y hy => upOf_fresh (h.fl y hy).1
  have e2 : addF (n' : Int) (newS c).fs.2 s.fs.2 = s.fs.2.filter (fresh1 n') := addF_nil h.rise (Nat.le_trans h.len hc)
  rw [e1, e2]
  obtain ⟨y, hf, hy, hyt⟩ := h.own
  have hym := (findF_some hf).1
  have hyc := h.fl y hym
  have hm : mine ∈ c.hosts := by rw [← hy]; exact hyc.1
  refine ⟨h.rise.filter _, Nat.le_trans (List.length_filter_le _ _) h.len, Nat.le_refl _, rfl, Nat.zero_le _, fun y hy => ?_, upOf_fresh hm, ⟨y, (findF_iff (h.rise.filter _)).2 ⟨List.mem_filter.2 ⟨hym, ?_⟩, (findF_some hf).2⟩, hy, hyt⟩⟩
  · obtain ⟨a, b, d⟩ := h.fl y (List.mem_filter.1 hy).1
    exact ⟨a, b, by omega⟩
  · have := hO.t2
    have := hyc.2.2
    unfold fresh1
    simp only [Bool.and_eq_true, decide_eq_true_eq]
    omega
/-- The first pick of all. -/
theorem SInv.first (hO : BOk c) (key : Nat) : ∃ mine s', pickS c (newS c) key 0 = ((mine, false, 0), s') ∧ SInv c key mine 0 1 (c.time : Int) 0 s' := by
  obtain ⟨x, kept, hp, hk⟩ := pickS_step (c := c) (s := newS c) (k := key) (n := 0) (Nat.zero_le _) (by omega) (by rw [openOf_new]; exact List.length_pos_iff.1 hO.h0) (by rw [openOf_new]; exact hO.tf) (size_pos hO)
  rcases hk with ⟨_, y, hf, _⟩ | ⟨rfl, hm, _⟩
  · simp [newS, findF] at hf
  · rw [openOf_new] at hm
    refine ⟨x, _, hp, rise_put List.Pairwise.nil _, put_len (by show 0 < 200; omega), Nat.le_refl _, rfl, Nat.zero_le _, fun y hy => ?_, upOf_fresh hm, ⟨_, put_same List.Pairwise.nil _, rfl, by simp⟩⟩
    rcases putF_any hy with rfl | hy
    · exact ⟨hm, by simp, by simp⟩
    · simp [newS] at hy
end
end Go.Proofs.YteilefpjfbholaaGreatDoor
