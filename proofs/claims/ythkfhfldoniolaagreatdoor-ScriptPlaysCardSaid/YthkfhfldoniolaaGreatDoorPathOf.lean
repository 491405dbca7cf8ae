/-
  The walk of the reference's PathOf.
-/
import Derived.Test.YthkfhfldoniolaaGreatDoorJump
set_option maxHeartbeats 1000000
namespace Go.Proofs.YthkfhfldoniolaaGreatDoor
open Go.RowKit
def qn (k:Nat):Nat:=k/8589934592
theorem wrap_qn (k:Nat) (h:k<18446744073709551616):wrap64 (IntKind.u64.wrap ((k:Int)/8589934592))=((qn k:Nat):Int):=by
 unfold qn
 rw [IntKind.wrap_u64]
 rw [IntWalk.wrap64_in _ (by omega)];omega
theorem qn_le (k:Nat) (h:k<18446744073709551616):((qn k:Nat):Int)≤2147483647:=by unfold qn;omega
theorem nextJ_q (k j:Nat):(((j:Int)+1)*2147483648/(((qn k:Nat):Int)+1))=((Jp.zfk k j:Nat):Int):=by
 rw [←nextJ_int];unfold den qn;rw [Int.natCast_add];rfl
def zeR (w:World) (l:List Nat) (e:Ending) (w':World):Prop:=∃g cap,e= .returned (.tuple #[.slice (some ⟨g,0,none⟩) l.length cap,.int .i64 0])∧Listed w l (.slice (some ⟨g,0,none⟩) l.length cap) w'
theorem pathOfPost_of {w w':World} {l:List Nat} {v:Value} (hl:l≠[]) (h:Listed w l v w'):zeR w l (.returned (.tuple #[v,.int .i64 0])) w':=by
 obtain ⟨g,cap,rfl,_⟩:=h.1.form (List.length_pos_iff.2 hl)
 exact ⟨g,cap,rfl,h⟩
set_option maxRecDepth 100000 in
theorem pathOf_ok (key n:Nat) (w:World) (hk:U64 key) (h1:1≤n) (h2:n≤1048576):
 Calls Tryz.prog 37 #[.int .u64 (key:Int),.int .i64 (n:Int)] w (zeR w (Jp.P key n)):=by
 obtain ⟨i0,hi,hz0,hz1,hz2⟩:=info_parts info_int
 have hn1:decide ((n:Int)<1)=false:=by simp;omega
 have hn2:decide ((n:Int)>1048576)=false:=by simp;omega
 go_enter Tryz.func37,Tryz.ntmps37
 go_wp2
 go_loopw [0,6,7,8] (fun kv v _ jv wr=>∃(k j:Nat) (done:List Nat),kv= .int .u64 (k:Int)∧U64 k∧jv= .int .i64 (j:Int)∧Hid (j≤2251799813685248)∧done.length≤j∧done.length≤n∧Hid (done++Jp.path (n-j) k j n=Jp.P key n)∧wr.ownsRow w.heap.size 3 1 v done.length (ints done)∧Below w.heap.size w wr) (fun _ _ _ jv _=>n- (intOf jv).toNat)
 case atStart=>exact ⟨key,0,[],rfl,hk,rfl,Lib.hid (by omega),by simp,by simp,Lib.hid rfl,⟨rfl,.inl ⟨rfl,rfl⟩⟩,Below.refl _ _⟩
 case round=>
  obtain ⟨k,j,done,rfl,hk2,rfl,hj,hdj,hdn,hpath,hown,hb⟩:=hrel
  by_cases hlt:j<n
  ·have hw1:IntKind.u64.wrap (IntKind.u64.wrap ((k:Int)*2862933555777941757)+1)=((Jp.zaF k:Nat):Int):=wrap_key k
   have hw2:wrap64 (IntKind.u64.wrap (((Jp.zaF k:Nat):Int)/8589934592))=((qn (Jp.zaF k):Nat):Int):=wrap_qn _ (Jp.zbf k)
   have hw3:=qn_le (Jp.zaF k) (Jp.zbf k)
   have hw4:¬(((qn (Jp.zaF k):Nat):Int)+1=0):=by omega
   have hw5:(0:Int)≤((qn (Jp.zaF k):Nat):Int):=by omega
   have hlt':decide ((j:Int)<n)=true:=by simp;omega
   go_wp2_with (first
    |(at_builtin
      refine wpList_append_own _ rfl _ _ 29 rfl w.heap.size 3 i0 (.int .i64 0) 1 8 Tryz.underlying29 hi hz0 hz1 hz2 rfl (by decide) _ _ _ rfl (hown.alloc _) ⟨wr.heap.size,0,none⟩ 1 1 [.int .i64 (j:Int)] rfl rfl (cell_one_new _ _ _) (by simp [Value.oneCell']) (by simp only [maxLen];omega) (by omega) (by have:=hb.size;simp;omega) ?_
      intro v' w1 hown' hgrow _))
   clear hw1 hw2 hw3 hw4 hw5
   go_roundw
   case rel=>
    have hb1:Below w.heap.size w w1:=zbg hb hown hgrow
    exact ⟨Jp.zaF k,Jp.zfk (Jp.zaF k) j,done++[j],rfl,Jp.zbf k,by rw [nextJ_q],Lib.hid (nextJ_le (by omega)),by
     have:=Jp.zdj (Jp.zaF k) j (Jp.zbf k);simp;omega,by simp;omega,path_step hlt hpath,by rw [ints_snoc,List.length_append];exact hown',hb1⟩
   case measure=>
    rw [nextJ_q]
    exact meas_lt hlt (Jp.zdj _ _ (Jp.zbf k))
  ·have hlt':decide ((j:Int)<n)=false:=by simp;omega
   go_wp2
   go_ret2
   exact pathOfPost_of (Jp.P_ne h1) (by rw [←path_end hlt hpath];exact ⟨hown,hb⟩)
theorem pathOf_bad (key:Nat) (n:Int) (w:World) (h:n<1∨1048576<n):
 Calls Tryz.prog 37 #[.int .u64 (key:Int),.int .i64 n] w fun e w'=>e= .returned (.tuple #[.slice none 0 0,.int .i64 2])∧w=w':=by
 by_cases h1:n<1
 ·have h1':decide (n<1)=true:=by simpa using h1
  clear h
  go_enter Tryz.func37,Tryz.ntmps37
  go_wp2
  go_ret2
  exact ⟨rfl,rfl⟩
 ·have h1':decide (n<1)=false:=by simpa using h1
  have h2':decide (n>1048576)=true:=by simp;omega
  go_enter Tryz.func37,Tryz.ntmps37
  go_wp2
  go_ret2
  exact ⟨rfl,rfl⟩
end Go.Proofs.YthkfhfldoniolaaGreatDoor
