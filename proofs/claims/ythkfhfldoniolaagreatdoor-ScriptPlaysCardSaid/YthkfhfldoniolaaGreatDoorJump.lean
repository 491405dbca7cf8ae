/-
  The path of a key by plain numbers: what jump.Path and PathOf compute, and what is so of it. The walks of package jump: Path, Bucket.
-/
import Derived.Test.YthkfhfldoniolaaGreatDoorBaseA
set_option maxHeartbeats 1000000
namespace Go.Proofs.YthkfhfldoniolaaGreatDoor
namespace Jp
def zaF (key:Nat):Nat:=(key*2862933555777941757+1)%18446744073709551616
def zfk (key j:Nat):Nat:=(j+1)*2147483648/(key/8589934592+1)
def path:Nat→Nat→Nat→Nat→List Nat
 |0,_,_,_=>[]
 |f+1,key,j,n=>if j<n then j::path f (zaF key) (zfk (zaF key) j) n else []
def P (key n:Nat):List Nat:=path n key 0 n
theorem zbf (key:Nat):zaF key<18446744073709551616:=Nat.mod_lt _ (by decide)
theorem zdj (key j:Nat) (h:key<18446744073709551616):j<zfk key j:=by
 have h1:key/8589934592+1≤2147483648:=by omega
 unfold zfk
 show j+1≤_
 rw [Nat.le_div_iff_mul_le (by omega)]
 exact Nat.mul_le_mul_left _ h1
theorem zcm {f key j n:Nat} (h:n≤j):path f key j n=[]:=by
 cases f with
 |zero=>rfl
 |succ f=>unfold path;rw [if_neg (by omega)]
theorem path_go {f key j n:Nat} (h:j<n):path (f+1) key j n=j::path f (zaF key) (zfk (zaF key) j) n:=by
 rw [path,if_pos h]
theorem path_fuel:∀(f g key j n:Nat),n-j≤f→n-j≤g→path f key j n=path g key j n
 |0,g,key,j,n,hf,_=>by rw [zcm (by omega),zcm (by omega)]
 |f+1,0,key,j,n,_,hg=>by rw [zcm (by omega),zcm (by omega)]
 |f+1,g+1,key,j,n,hf,hg=>by
   by_cases h:j<n
   ·rw [path_go h,path_go h]
    have:=zdj (zaF key) j (zbf key)
    rw [path_fuel f g _ _ n (by omega) (by omega)]
   ·rw [zcm (by omega),zcm (by omega)]
theorem path_ge:∀(f key j n:Nat) (x:Nat),x∈path f key j n→j≤x∧x<n
 |0,_,_,_,x,h=>by simp [path] at h
 |f+1,key,j,n,x,h=>by
   by_cases hj:j<n
   ·rw [path_go hj] at h
    rcases List.mem_cons.1 h with rfl|h
    ·exact ⟨Nat.le_refl _,hj⟩
    ·have:=path_ge f _ _ n x h
     have:=zdj (zaF key) j (zbf key)
     omega
   ·rw [zcm (by omega)] at h;cases h
theorem path_length:∀(f key j n:Nat),(path f key j n).length≤n-j
 |0,_,_,_=>by simp [path]
 |f+1,key,j,n=>by
   by_cases hj:j<n
   ·rw [path_go hj,List.length_cons]
    have:=path_length f (zaF key) (zfk (zaF key) j) n
    have:=zdj (zaF key) j (zbf key)
    omega
   ·rw [zcm (by omega)];simp
theorem P_lt {key n x:Nat} (h:x∈P key n):x<n:=(path_ge _ _ _ _ _ h).2
theorem P_length (key n:Nat):(P key n).length≤n:=path_length n key 0 n
theorem P_pos {key n:Nat} (h:0<n):∃l,P key n=0::l:=by
 obtain ⟨m,rfl⟩:∃m,n=m+1:=⟨n-1,by omega⟩
 exact ⟨_,path_go (by omega)⟩
theorem P_ne {key n:Nat} (h:0<n):P key n≠[]:=by
 obtain ⟨l,e⟩:=P_pos (key:=key) h
 rw [e];exact List.cons_ne_nil _ _
def B (key n:Nat):Nat:=(P key n).getLastD 0
theorem B_mem {key n:Nat} (h:0<n):B key n∈P key n:=by
 unfold B
 rw [List.getLastD_eq_getLast?]
 cases h':(P key n).getLast? with
 |none=>rw [List.getLast?_eq_none_iff] at h';exact absurd h' (P_ne h)
 |some x=>exact List.mem_of_getLast? h'
theorem B_lt {key n:Nat} (h:0<n):B key n<n:=P_lt (B_mem h)
theorem B_last {key n:Nat} (h:0<n):(P key n)[(P key n).length-1]? =some (B key n):=by
 unfold B
 rw [←List.getLast?_eq_getElem?,List.getLastD_eq_getLast?]
 cases h':(P key n).getLast? with
 |none=>rw [List.getLast?_eq_none_iff] at h';exact absurd h' (P_ne h)
 |some x=>rfl
end Jp
end Go.Proofs.YthkfhfldoniolaaGreatDoor
namespace Go.Proofs.YthkfhfldoniolaaGreatDoor
open Go.RowKit
theorem info_int:(Tryz.prog.info? 3).map (fun i=>(i.zero,i.size,i.bytes))=some (some (.int .i64 0),1,8):=by kernel_rfl
def ints (l:List Nat):List Value:=l.map fun x:Nat=>Value.int .i64 (x:Int)
def Listed (w:World) (l:List Nat) (v:Value) (w':World):Prop:=w'.ownsRow w.heap.size 3 1 v l.length (ints l)∧Below w.heap.size w w'
def PathPost (w:World) (l:List Nat) (e:Ending) (w':World):Prop:=∃g cap,e= .returned (.tuple #[.slice (some ⟨g,0,none⟩) l.length cap,.nilIface])∧Listed w l (.slice (some ⟨g,0,none⟩) l.length cap) w'
theorem pathPost_of {w w':World} {l:List Nat} {v:Value} (hl:l≠[]) (h:Listed w l v w'):PathPost w l (.returned (.tuple #[v,.nilIface])) w':=by
 obtain ⟨g,cap,rfl,_⟩:=h.1.form (List.length_pos_iff.2 hl)
 exact ⟨g,cap,rfl,h⟩
theorem Listed.cell {w w':World} {l:List Nat} {g cap:Nat} (h:Listed w l (.slice (some ⟨g,0,none⟩) l.length cap) w') {j x:Nat} (hx:l[j]? =some x):
 w'.cell? ⟨g,j,none⟩=some (.int .i64 (x:Int)):=by
 have:=h.1.cells (g:=g) rfl j (.int .i64 (x:Int)) (by simp [ints,hx])
 by_cases h0:j=0
 ·subst h0;simpa [Addr.add] using this
 ·simpa [Addr.add,h0] using this
def den (k:Nat):Nat:=k/8589934592+1
theorem den_ne (k:Nat):¬den k=0:=by unfold den;omega
theorem wrap_key (k:Nat):IntKind.u64.wrap (IntKind.u64.wrap ((k:Int)*2862933555777941757)+1)=((Jp.zaF k:Nat):Int):=by
 rw [IntKind.wrap_u64,IntKind.wrap_u64];unfold Jp.zaF;omega
theorem wrap_den (k:Nat) (h:k<18446744073709551616):wrap64 (IntKind.u64.wrap ((k:Int)/8589934592+1))=((den k:Nat):Int):=by
 rw [IntKind.wrap_u64];unfold den
 rw [IntWalk.wrap64_in _ (by omega)];omega
theorem path_step {key n k j:Nat} {done:List Nat} (hlt:j<n) (h:Hid (done++Jp.path (n-j) k j n=Jp.P key n)):
 Hid ((done++[j])++Jp.path (n-Jp.zfk (Jp.zaF k) j) (Jp.zaF k) (Jp.zfk (Jp.zaF k) j) n=Jp.P key n):=by
 refine Lib.hid ?_
 rw [←h.out]
 obtain ⟨m,hm⟩:∃m,n-j=m+1:=⟨n-j-1,by omega⟩
 rw [hm,Jp.path_go hlt,List.append_assoc,List.singleton_append]
 have:=Jp.zdj (Jp.zaF k) j (Jp.zbf k)
 rw [Jp.path_fuel m (n-Jp.zfk (Jp.zaF k) j) _ _ n (by omega) (by omega)]
theorem nextJ_le {k j:Nat} (h:j<1048576):Jp.zfk k j≤2251799813685248:=by
 unfold Jp.zfk
 exact Nat.le_trans (Nat.div_le_self _ _) (by omega)
theorem nextJ_int (k j:Nat):(((j:Int)+1)*2147483648/((den k:Nat):Int))=((Jp.zfk k j:Nat):Int):=by
 unfold Jp.zfk den
 rw [Int.natCast_ediv,Int.natCast_mul,Int.natCast_add];rfl
theorem meas_lt {n j j':Nat} (h:j<n) (h':j<j'):n- (intOf (.int .i64 (j':Int))).toNat<n- (intOf (.int .i64 (j:Int))).toNat:=by simp [intOf];omega
theorem ints_snoc (l:List Nat) (j:Nat):ints (l++[j])=ints l++[.int .i64 (j:Int)]:=by simp [ints]
theorem path_end {key n k j:Nat} {done:List Nat} (hlt:¬j<n) (h:Hid (done++Jp.path (n-j) k j n=Jp.P key n)):done=Jp.P key n:=by
 rw [←h.out,Jp.zcm (by omega),List.append_nil]
set_option maxRecDepth 100000 in
theorem path_ok (key n:Nat) (w:World) (hk:U64 key) (h1:1≤n) (h2:n≤1048576):
 Calls Tryz.prog 134 #[.int .u64 (key:Int),.int .i64 (n:Int)] w (PathPost w (Jp.P key n)):=by
 obtain ⟨i0,hi,hz0,hz1,hz2⟩:=info_parts info_int
 have hn1:decide ((n:Int)<1)=false:=by simp;omega
 have hn2:decide ((n:Int)>1048576)=false:=by simp;omega
 go_enter Tryz.func134,Tryz.ntmps134
 go_wp2
 go_loopw [0,6,7] (fun kv v jv wr=>∃(k j:Nat) (done:List Nat),kv= .int .u64 (k:Int)∧U64 k∧jv= .int .i64 (j:Int)∧Hid (j≤2251799813685248)∧done.length≤j∧done.length≤n∧Hid (done++Jp.path (n-j) k j n=Jp.P key n)∧wr.ownsRow w.heap.size 3 1 v done.length (ints done)∧Below w.heap.size w wr) (fun _ _ jv _=>n- (intOf jv).toNat)
 case atStart=>exact ⟨key,0,[],rfl,hk,rfl,Lib.hid (by omega),by simp,by simp,Lib.hid rfl,⟨rfl,.inl ⟨rfl,rfl⟩⟩,Below.refl _ _⟩
 case round=>
  obtain ⟨k,j,done,rfl,hk2,rfl,hj,hdj,hdn,hpath,hown,hb⟩:=hrel
  by_cases hlt:j<n
  ·have hw1:IntKind.u64.wrap (IntKind.u64.wrap ((k:Int)*2862933555777941757)+1)=((Jp.zaF k:Nat):Int):=wrap_key k
   have hw2:wrap64 (IntKind.u64.wrap (((Jp.zaF k:Nat):Int)/8589934592+1))=((den (Jp.zaF k):Nat):Int):=wrap_den _ (Jp.zbf k)
   have hw3:¬(den (Jp.zaF k))=0:=den_ne _
   have hlt':decide ((j:Int)<n)=true:=by simp;omega
   go_wp2_with (first
    |(at_builtin
      refine wpList_append_own _ rfl _ _ 29 rfl w.heap.size 3 i0 (.int .i64 0) 1 8 Tryz.underlying29 hi hz0 hz1 hz2 rfl (by decide) _ _ _ rfl (hown.alloc _) ⟨wr.heap.size,0,none⟩ 1 1 [.int .i64 (j:Int)] rfl rfl (cell_one_new _ _ _) (by simp [Value.oneCell']) (by simp only [maxLen];omega) (by omega) (by have:=hb.size;simp;omega) ?_
      intro v' w1 hown' hgrow _))
   clear hw1 hw2 hw3
   go_roundw
   case rel=>
    have hb1:Below w.heap.size w w1:=zbg hb hown hgrow
    exact ⟨Jp.zaF k,Jp.zfk (Jp.zaF k) j,done++[j],rfl,Jp.zbf k,by rw [nextJ_int],Lib.hid (nextJ_le (by omega)),by
     have:=Jp.zdj (Jp.zaF k) j (Jp.zbf k);simp;omega,by simp;omega,path_step hlt hpath,by rw [ints_snoc,List.length_append];exact hown',hb1⟩
   case measure=>
    rw [nextJ_int]
    exact meas_lt hlt (Jp.zdj _ _ (Jp.zbf k))
  ·have hlt':decide ((j:Int)<n)=false:=by simp;omega
   go_wp2
   go_ret2
   exact pathPost_of (Jp.P_ne h1) (by rw [←path_end hlt hpath];exact ⟨hown,hb⟩)
theorem path_bad (key:Nat) (n:Int) (w:World) (v:Value) (hv:w.cell? ⟨0,0,none⟩=some v) (h:n<1∨1048576<n):
 Calls Tryz.prog 134 #[.int .u64 (key:Int),.int .i64 n] w fun e w'=>e= .returned (.tuple #[.slice none 0 0,v])∧∃m,w'=w.drewN m:=by
 by_cases h1:n<1
 ·have h1':decide (n<1)=true:=by simpa using h1
  clear h
  go_enter Tryz.func134,Tryz.ntmps134
  go_wp2
  go_quiet (fail)
  go_wp2
  go_ret2
  exact ⟨rfl,_,rfl⟩
 ·have h1':decide (n<1)=false:=by simpa using h1
  have h2':decide (n>1048576)=true:=by simp;omega
  go_enter Tryz.func134,Tryz.ntmps134
  go_wp2
  go_quiet (fail)
  go_wp2
  go_ret2
  exact ⟨rfl,_,rfl⟩
def BucketPost (w:World) (b:Nat) (e:Ending) (w':World):Prop:=e= .returned (.tuple #[.int .i64 (b:Int),.nilIface])∧Below w.heap.size w w'
theorem bucket_of (key n b:Nat) (l:List Nat) (w:World) (H:Hid (Calls Tryz.prog 134 #[.int .u64 (key:Int),.int .i64 (n:Int)] w (PathPost w l)))
 (hl:0<l.length) (hle:l.length≤1048576) (hx:Hid (l[l.length-1]? =some b)):
 Calls Tryz.prog 84 #[.int .u64 (key:Int),.int .i64 (n:Int)] w (BucketPost w b):=by
 go_enter Tryz.func84,Tryz.ntmps84
 go_wp2_with (go_at_call 134;refine H.out.mono ?_;rintro e w1 ⟨g,cap,rfl,hown⟩;have hc:=hown.cell hx.out)
 go_ret2
 exact ⟨rfl,hown.2⟩
theorem bucket_ok (key n:Nat) (w:World) (hk:U64 key) (h1:1≤n) (h2:n≤1048576):
 Calls Tryz.prog 84 #[.int .u64 (key:Int),.int .i64 (n:Int)] w (BucketPost w (Jp.B key n)):=
 bucket_of key n _ _ w (Lib.hid (path_ok key n w hk h1 h2)) (List.length_pos_iff.2 (Jp.P_ne h1)) (Nat.le_trans (Jp.P_length _ _) h2) (Lib.hid (Jp.B_last h1))
theorem bucket_bad (key:Nat) (n:Int) (w:World) (a:Addr) (hv:w.cell? ⟨0,0,none⟩=some (.iface 355 (.pointer (some a)))) (h:n<1∨1048576<n):
 Calls Tryz.prog 84 #[.int .u64 (key:Int),.int .i64 n] w fun e w'=>e= .returned (.tuple #[.int .i64 0,.iface 355 (.pointer (some a))])∧∃m,w'=w.drewN m:=by
 have H:=Lib.hid (path_bad key n w _ hv h)
 clear h
 go_enter Tryz.func84,Tryz.ntmps84
 go_wp2_with (go_at_call 134;refine H.out.mono ?_;rintro e w1 ⟨rfl,m,rfl⟩)
 go_ret2
 exact ⟨rfl,_,rfl⟩
end Go.Proofs.YthkfhfldoniolaaGreatDoor
