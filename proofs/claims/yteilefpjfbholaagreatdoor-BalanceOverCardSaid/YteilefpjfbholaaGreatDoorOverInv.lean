/-
  What stands in a balance that is picked from while all hosts are up and none is drained.
-/
import Derived.Test.YteilefpjfbholaaGreatDoorBalNow
import Derived.Test.YteilefpjfbholaaGreatDoorBalCarry
namespace Go.Proofs.YteilefpjfbholaaGreatDoor
open Go.RowKit

/-- What stands between picks. -/
structure OInv (c : BCfg) (n cnt e : Nat) (s : BS) : Prop where
  rise : Rise s.fs.2
  len : s.fs.2.length ≤ cnt
  last : s.fs.1 ≤ n
  st : s.st = fresh c.hosts
  dr : s.dr = fun _ => false
  ep : s.epoch = e
  fl : ∀ y ∈ s.fs.2, y.host ∈ c.hosts ∧ 0 ≤ y.til ∧ y.til ≤ (n : Int) + c.time
theorem OInv.new (c : BCfg) : OInv c 0 0 0 (newS c) := ⟨List.Pairwise.nil, Nat.le_refl _, Nat.le_refl _, rfl, rfl, rfl, fun y hy => by simp [newS] at hy⟩
section
variable {c : BCfg} {n n' cnt e k : Nat} {s : BS}
theorem OInv.openAll (h : OInv c n cnt e s) : openOf s = c.hosts := by
  unfold openOf
  rw [h.st, h.dr, ups_fresh]
  simp
theorem OInv.step (h : OInv c n cnt e s) (hO : BOk c) (hc : cnt < 200) (hn : n ≤ n') (hn2 : n' ≤ 1000000) :
    ∃ (x : ByteArray) (kept : Bool) (s' : BS), pickS c s k n' = ((x, kept, 0), s') ∧ OInv c n' (cnt + 1) e s' := by
  have hne : openOf s ≠ [] := by rw [h.openAll]; exact List.length_pos_iff.1 hO.h0
  have htf : tableFault (openOf s) (c.size : Int) = none := by rw [h.openAll]; exact hO.tf
  have h0 : 0 < c.size := by
    have := hO.tf
    unfold tableFault at this
    rw [if_neg (by have := hO.h0; omega), hO.hf] at this
    rcases Nat.eq_zero_or_pos c.size with h0 | h0
    · rw [h0] at this
      simp [sizeFault] at this
    · exact h0
  obtain ⟨x, kept, hp, hk⟩ := pickS_step (c := c) (s := s) (k := k) (n := n') (Nat.le_trans h.last hn) (by omega) hne htf h0
  have hl : s.fs.2.length < 200 := Nat.lt_of_le_of_lt h.len hc
  have hx : x ∈ c.hosts := by
    rcases hk with ⟨_, y, _, _, _, hu⟩ | ⟨_, hm, _⟩
    · have := upOf_mem hu
      rw [h.st, fresh_hosts] at this
      exact this
    · rw [h.openAll] at hm
      exact hm
  refine ⟨x, kept, _, hp, rise_put h.rise _, Nat.le_trans (put_len hl) (Nat.succ_le_succ h.len), Nat.le_refl _, h.st, h.dr, h.ep, fun y hy => ?_⟩
  have := hO.t1
  rcases (put_mem hl).1 hy with rfl | ⟨hy, _⟩
  · exact ⟨hx, by dsimp only; omega, by dsimp only; omega⟩
  · obtain ⟨a, b, d⟩ := h.fl y hy
    exact ⟨a, b, by omega⟩
theorem OInv.flOk (h : OInv c n cnt e s) (hO : BOk c) (hn : n ≤ 1000000) : ∀ y ∈ s.fs.2, FlOk y := fun y hy => by
  obtain ⟨a, b, d⟩ := h.fl y hy
  have := hO.t2
  exact ⟨(hostsFault_none.1 hO.hf).2.1 _ a, b, by omega⟩
/-- What is carried may be carried. -/
theorem OInv.check (h : OInv c n cnt e s) (hO : BOk c) (hc : cnt ≤ 200) (hn : n ≤ 1000000) (E : Int) (h0 : 0 ≤ E) (h1 : E ≤ 1000000) : checkOf E s.fs.2 = none :=
  checkOf_ok h0 (by omega) (Nat.le_trans h.len hc) (h.flOk hO hn) h.rise
theorem OInv.up (h : OInv c n cnt e s) : s.fs.2.filter (fun y => upOf (fresh c.hosts) y.host) = s.fs.2 :=
  List.filter_eq_self.2 fun y hy => upOf_fresh (h.fl y hy).1
/-- What comes over to one that has nothing. -/
theorem OInv.over (h : OInv c n cnt e s) (hO : BOk c) (hc : cnt ≤ 200) {m : Nat} (hm : n ≤ m) : addF (m : Int) [] s.fs.2 = s.fs.2.filter fun y => decide ((m : Int) < y.til) := by
  rw [addF_nil h.rise (Nat.le_trans h.len hc)]
  refine List.filter_congr fun y hy => ?_
  have := (h.fl y hy).2.2
  have := hO.t2
  unfold fresh1
  have e : decide (y.til ≤ (m : Int) + 1000) = true := by simp; omega
  rw [e, Bool.and_true]
end
end Go.Proofs.YteilefpjfbholaaGreatDoor
