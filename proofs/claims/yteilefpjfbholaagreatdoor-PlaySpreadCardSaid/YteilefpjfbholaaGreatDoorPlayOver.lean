/-
  Package play's over.
-/
import Derived.Test.YteilefpjfbholaaGreatDoorBalCarry
import Derived.Test.YteilefpjfbholaaGreatDoorPlayPlain
namespace Go.Proofs.YteilefpjfbholaaGreatDoor
open Go.RowKit

section
variable {ea : Nat → Addr} {w W W' : World} {lo hi lo2 hi2 k now : Nat} {p q : BPl} {c : BCfg} {s t : BS}
def PickAny (ea : Nat → Addr) (w : World) (lo hi : Nat) (p : BPl) (c : BCfg) (r : (ByteArray × Bool × Nat) × BS) (W : World) (e : Ending) (w' : World) : Prop :=
  e = .returned (.tuple #[.string r.1.1, .bool r.1.2.1, errZ ea r.1.2.2]) ∧ BNow ea w w' lo hi p c r.2 ∧ Turn [p.fp, p.mb] W w'
theorem bn_pickAny (k : Nat) (now : Int) (h : BNow ea w W lo hi p c s) (hO : BOk c) (hU : U64 k) :
    Calls Tryz.prog 11 #[.pointer (some ⟨p.bp, 0, none⟩), .int .u64 (k : Int), .int .i64 now] W (PickAny ea w lo hi p c (pickS c s k now) W) :=
  (pick_any ea k now W h.e h.b hO hU).mono fun _ _ ⟨a, b, t⟩ => ⟨a, h.turn b t p.fm, t⟩
theorem BInv.check (h : BInv k now s) (hl : s.fs.2.length ≤ 200) (hn : now ≤ 1000000) (E : Int) (h0 : 0 ≤ E) (h1 : E ≤ 1099511627776) : checkOf E s.fs.2 = none :=
  checkOf_ok h0 h1 hl (fun y hy => ⟨(hostsFault_none.1 ok_22.hf).2.1 _ (h.fl y hy).1, (h.fl y hy).2.1, by have := (h.fl y hy).2.2; omega⟩) h.rise
/-- What may turn: two balances. -/
def TwoPost (ea : Nat → Addr) (w : World) (lo hi lo2 hi2 : Nat) (p q : BPl) (v : Value) (r : BS × BS) (W : World) (e : Ending) (w' : World) : Prop :=
  e = .returned v ∧ BNow ea w w' lo hi p c22 r.1 ∧ BNow ea w w' lo2 hi2 q c22 r.2 ∧ Turn (p.bs ++ q.bs) W w'
theorem over_any (h : BNow ea w W lo hi p c22 s) (h' : BNow ea w W lo2 hi2 q c22 t) (ha : Apart q p) (hW : CarW w) (hK : ErrsK ea w) (i1 : BInv k now s) (i2 : BInv k now t) (hk : k ≤ 100000) (hn : now ≤ 1000000) :
    Calls Tryz.prog 100 #[.pointer (some ⟨p.bp, 0, none⟩), .pointer (some ⟨q.bp, 0, none⟩), .int .i64 (now : Int)] W (TwoPost ea w lo hi lo2 hi2 p q (errZ ea (overS s t now).1) (overS s t now).2 W) := by
  have he := i1.ep
  have hck := i1.check h.b.f.len hn ((s.epoch : Int) + 1) (by omega) (by omega)
  have HX := Lib.hid (bn_export h hW hK (fun x hx => hosts_small ok_22 x.host (i1.fl x hx).1) (by omega) hck)
  have hrd := read_text hck fun x hx => h.b.f.map.u64 x hx
  have hrd2 : readOf (⟨(textOf ((s.epoch : Int) + 1) s.fs.2).toArray⟩ : ByteArray).data.toList = .good (s.epoch + 1) s.fs.2 := by
    rw [show ((s.epoch : Int) + 1) = ((s.epoch + 1 : Nat) : Int) from rfl] at hrd ⊢
    exact hrd
  have HI : Hid (∀ w1, BNow ea w w1 lo hi p c22 { s with epoch := s.epoch + 1 } → Turn [p.bp] W w1 → Calls Tryz.prog 14 #[.pointer (some ⟨q.bp, 0, none⟩), .string ⟨(textOf ((s.epoch : Int) + 1) s.fs.2).toArray⟩, .int .i64 (now : Int)] w1
      fun r w' => ∃ n : Nat, r = .returned (.tuple #[.int .i64 (n : Int), errZ ea (overS s t now).1]) ∧ TwoPost ea w lo hi lo2 hi2 p q (errZ ea (overS s t now).1) (overS s t now).2 W (.returned (errZ ea (overS s t now).1)) w') := Lib.hid fun w1 h1 t1 => by
    have h2 := h'.stay h1 t1 p.be ha
    have m1 : ∀ b ∈ [p.bp], b ∈ p.bs ++ q.bs := fun b hb => List.mem_append.2 (.inl (p.be b hb))
    unfold overS
    by_cases hlt : s.epoch + 1 < t.epoch
    · rw [if_pos hlt]
      exact (bn_importOld now (s.epoch + 1) s.fs.2 _ h2 hW hK hrd2 hlt).mono fun r w' ⟨a, b⟩ => ⟨0, a, rfl, h1.below b, h2.below b, (t1.more m1).thenB b⟩
    · rw [if_neg hlt]
      exact (bn_import now (s.epoch + 1) s.fs.2 _ h2 hW hK hrd2 (by omega) i2.last (by omega)).mono fun r w' ⟨a, b, t2⟩ => ⟨_, a, rfl, h1.stay b t2 q.bf ha.symm, b, (t1.more m1).then (t2.more fun b hb => List.mem_append.2 (.inr (q.bf b hb)))⟩
  unfold ExpAs at HX
  generalize errZ ea (overS s t now).1 = ev at *
  generalize textOf ((s.epoch : Int) + 1) s.fs.2 = tx at *
  clear h h' hW hK i1 i2 hck hrd hrd2 he
  go_enter Tryz.func100, Tryz.ntmps100
  go_wp2_with fail
  refine HX.out.mono ?_
  rintro r w1 ⟨rfl, h1, t1⟩
  have HI1 := Lib.hid (HI.out w1 h1 t1)
  clear h1 t1 HI HX
  go_wp2_with fail
  refine HI1.out.mono ?_
  rintro r w2 ⟨n, rfl, hP⟩
  have HP := Lib.hid hP
  clear hP HI1
  go_wp2_with fail
  go_ret
  exact HP.out
end
end Go.Proofs.YteilefpjfbholaaGreatDoor
