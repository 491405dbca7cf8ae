/-
  slices.Values at texts, and slices.AppendSeq over it: a new slice with the same texts.
-/
import Derived.Test.YthkfhfldoniolaaGreatDoorLists
import Derived.RangeFuncNested
import Derived.RangeFuncBound
import Derived.RangeFuncCalls
import Derived.RangeFuncLeaves
import Derived.RangeFuncBox
import Derived.Shelf.Abstract
import Derived.Shelf.RegionOpen
import Derived.WalkKit
import Derived.OwnWalkIn
import Derived.TacticsInMore
import Derived.LoopNIn
import Derived.LoopIn
import Derived.Maps.AppendAt
set_option maxHeartbeats 2000000
namespace Go.Proofs.YthkfhfldoniolaaGreatDoor
open Go.RowKit Go.Shelf
attribute [local go_sem] Oper.semAt_some
def upto {α:Type} (f:Nat→α) (k:Nat):List α:=(List.range k).map f
theorem upto_succ {α:Type} (f:Nat→α) (k:Nat):upto f (k+1)=upto f k++[f k]:=by simp [upto,List.range_succ]
theorem upto_length {α:Type} (f:Nat→α) (k:Nat):(upto f k).length=k:=by simp [upto]
theorem upto_take (zs:List ByteArray) {k:Nat} (hk:k≤zs.length):upto (fun j=>zs[j]?.getD ByteArray.empty) k=zs.take k:=by
 apply List.ext_getElem
 ·simp [upto,hk]
 ·intro i h1 h2
  have:i<zs.length:=by simp [upto] at h1;omega
  simp [upto,this]
set_option maxRecDepth 100000 in
theorem values1_in (F:Fence) (n:Nat) (h7:F.fn 206) (hro:F.round=none) (hn:1≤n) (l Bs n₀ len cap:Nat) (A:Option Addr) (f:Nat→ByteArray) (hreach:len≤1000) (J Jx:List ByteArray→World→Prop)
 (hY:∀pre x W,J pre W→pre.length<len→YieldAt F (n-1) Tryz.prog l #[.string x] W fun e W'=>
   (e= .returned (.bool true)∧J (pre++[x]) W'∧Below n₀ W W')∨(e= .returned (.bool false)∧Jx (pre++[x]) W'))
 (W:World) (hBs:W.cell? ⟨Bs,0,none⟩=some (.slice A len cap)) (hc:∀j,j<len→∃ad:Addr,A=some ad∧ad.block<n₀∧W.cell? (ad.add j)=some (.string (f j))) (h0:J [] W):
 CallsIn F n Tryz.prog 206 #[.func (.yield l) #[] #[],.pointer (some ⟨Bs,0,none⟩)] W fun e W'=>(∃v,e= .returned v)∧
  ((∃ys,ys=upto f len∧J ys W')∨(∃pre,(∃k,k≤len∧pre=upto f k)∧Jx pre W')):=by
 refine callsIn_of_wp Tryz.func206 rfl h7 ?_ hro
 simp only [Tryz.ntmps206,List.size_toArray,List.length_cons,List.length_nil,Nat.reduceAdd,Nat.reduceSub,Array.replicate_succ,Array.replicate_zero,List.push_toArray,List.append_toArray,List.nil_append,List.cons_append]
 gi_wp2
 gi_loopw [7] (fun i wr=>∃k:Nat,k≤len∧i= .int .i64 k∧J (upto f k) wr∧Below n₀ W wr)
  (fun i _=>len- (intOf i).toNat)
 case atStart=>exact ⟨0,Nat.zero_le _,rfl,h0,Below.refl _ _⟩
 case round=>
  obtain ⟨k,hk,rfl,hJs,hnx⟩:=hrel
  by_cases hlt:k<len
  ·obtain ⟨fn,tmps,assign,body,hy,hR⟩:=hY _ (f k) wr hJs (by rw [upto_length];exact hlt)
   obtain ⟨ad,rfl,hb,hcx⟩:=hc k hlt
   have hcx':=(hnx.cell (p:=ad.add k) (by rw [zaN];exact hb)).trans hcx
   clear hcx
   gi_wp2
   refine hR.mono ?_
   rintro e W3 (⟨rfl,hJ3,hk3⟩|⟨rfl,hJx3⟩)
   ·gi_wp2
    go_roundw
    case rel=>exact ⟨k+1,by omega,by simp,by rw [upto_succ];exact hJ3,hnx.trans hk3⟩
    case measure=>simp [intOf];omega
   ·gi_wp2
    refine bodyPost_ret (results_none rfl _ _ _) rfl ?_
    exact ⟨⟨_,rfl⟩,.inr ⟨_,⟨k+1,by omega,(upto_succ _ _).symm⟩,hJx3⟩⟩
  ·obtain rfl:k=len:=by omega
   gi_wp2
   go_end0
   exact ⟨⟨_,rfl⟩,.inl ⟨_,rfl,hJs⟩⟩
theorem values_any (A:Option Addr) (len cap:Nat) (w:World):
 Calls Tryz.prog 163 #[.slice A len cap] w fun e w'=>e= .returned (.func (.func 206) #[] #[.pointer (some ⟨w.heap.size,0,none⟩)])∧w.alloc (.cells #[.slice A len cap] 24)=w':=by
 go_enter Tryz.func163,Tryz.ntmps163
 go_wp2
 go_ret
 exact ⟨rfl,rfl⟩
theorem values_stops (F:Fence) (n:Nat) (h7:F.fn 206) (hro:F.round=none) (hn:1≤n) (Bs n₀ cap:Nat) (A:Option Addr) (zs:List ByteArray) (hreach:zs.length≤1000) (w:World) (hBs:Bs<w.heap.size) (hn₀:n₀≤w.heap.size)
 (hc:w.cell? ⟨Bs,0,none⟩=some (.slice A zs.length cap)) (hI:Reads w n₀ 1 A zs.length (zak zs)):
 SeqStopsK F n Tryz.prog 206 #[.pointer (some ⟨Bs,0,none⟩)] (fun x:ByteArray=> #[Value.string x]) (Below n₀) (fun ys=>ys=zs) (fun pre=>pre<+:zs) zs.length w:=fun l J Jx W hW _ _ hY h0=>by
 have hc':=(hW.cell (p:=⟨Bs,0,none⟩) hBs).trans hc
 have hr:=hI.below (hW.mono hn₀)
 refine (values1_in F n h7 hro hn l Bs n₀ zs.length cap A (fun j=>zs[j]?.getD ByteArray.empty) hreach J Jx hY W hc' (fun j hj=> ?_) h0).mono ?_
 ·obtain ⟨ad,u,hA,hb,hx,hcell⟩:=hr.at_ hj
  refine ⟨ad,hA,hb, ?_⟩
  rw [hcell]
  simp [zak,hj] at hx
  rw [←hx];simp [hj]
 ·rintro e W' ⟨he,⟨ys,rfl,hj⟩|⟨pre,⟨k,hk,rfl⟩,hj⟩⟩
  ·exact ⟨he,.inl ⟨_,by rw [upto_take zs (Nat.le_refl _),List.take_length],hj⟩⟩
  ·exact ⟨he,.inr ⟨_,by rw [upto_take zs hk];exact List.take_prefix _ _,hj⟩⟩
set_option maxRecDepth 100000 in
theorem appendSeq_in (F:Fence) (n:Nat) (h3:F.fn 249) (h5:F.fn 206) (hro:F.round=none) (hn:3≤n) (Bs cap:Nat) (A:Option Addr) (xs:List ByteArray) (hlen:xs.length≤1000) (w:World)
 (hBs:Bs<w.heap.size) (hcB:w.cell? ⟨Bs,0,none⟩=some (.slice A xs.length cap)) (hL:Reads w w.heap.size 1 A xs.length (zak xs)):
 CallsIn F n Tryz.prog 249 #[.slice none 0 0,.func (.func 206) #[] #[.pointer (some ⟨Bs,0,none⟩)]] w fun e W'=>∃v,e= .returned v∧W'.ownsRow w.heap.size 9 1 v xs.length (zak xs)∧Below w.heap.size w W':=by
 have h1:1≤n:=by omega
 obtain ⟨i0,hi,hz0,hz1,hz2⟩:=info_parts zb8
 refine callsIn_of_wp_marks Tryz.func249 rfl h3 ?_ hro
 simp only [Tryz.ntmps249,List.size_toArray,List.length_cons,List.length_nil,Nat.reduceAdd,Nat.reduceSub,Array.replicate_succ,Array.replicate_zero,List.push_toArray,List.append_toArray,List.nil_append,List.cons_append]
 gi_wp2
 have bO:=Boxed.new w 24 (.slice none 0 0)
 have hB0:Below w.heap.size w (w.alloc (.cells #[.slice none 0 0] 24)):=(Below.refl _ w).alloc (Nat.le_refl _) _
 refine wpIn_rangeFunc_ownG hro h1 (gf:=206) (lb:= #[.pointer (some ⟨Bs,0,none⟩)]) rfl h5 (enters_of Tryz.func206 (by kernel_rfl) rfl)
  (values_stops F (n-1) h5 hro (by omega) Bs w.heap.size cap A xs hlen _ (by simp;omega) (by simp) ((hB0.cell (p:=⟨Bs,0,none⟩) hBs).trans hcB) (hL.below hB0)) belowK_t (belowK_b (by simp)) (Below.refl _ _) (fun _=>rfl)
  (fun pre W=>(∃v,Boxed W w.heap.size 24 v∧W.ownsRow w.heap.size 9 1 v pre.length (zak pre)∧True)∧Below w.heap.size w W)
  (fun _ _ _=>False)
  (OwnFrom.and (Own.from (holdsRow_own w.heap.size w.heap.size 24 9 1 (fun pre=>pre.length) (fun pre=>zak pre) (fun pre v=>True)) _) (ownFrom_below (Nat.le_refl _) (by simp)))
  (fun _ _ _ _ _ hs _ _=>hs)
  ⟨⟨_,bO,World.ownsRow_nil _ _ _ _,trivial⟩,hB0⟩
  (fun x=>{ tmps:= #[.slice none 0 0,.func (.func 206) #[] #[.pointer (some ⟨Bs,0,none⟩)],.pointer (some ⟨w.heap.size,0,none⟩),undef,.slice none 0 0,.string x,.func (.func 206) #[] #[.pointer (some ⟨Bs,0,none⟩)],.string x,undef,undef,undef,undef,undef],defers:=[] }) ?assign ?body ?done ?stop
 case assign=>
  intro l x W K hK
  gi_wp2
  exact hK
 case body=>
  rintro l pre x W ⟨⟨v,hv,hrow,_⟩,hB⟩ hlt
  have hc:=hv.cell
  gi_wp2_with (gi_at_builtin;refine wpListIn_append_own _ rfl _ _ 24 rfl w.heap.size 9 i0 (.string ⟨#[]⟩) 1 16 Tryz.underlying24 hi hz0 hz1 hz2 rfl (by decide) _ _ _ rfl (hrow.alloc _) ⟨W.heap.size,0,none⟩ 1 1 [.string x] rfl rfl (cell_one_new _ _ _) (by simp [Value.oneCell']) (by unfold maxLen;omega) (by omega) (by have:=hB.size;simp;omega) ?_;intro v' w1 hown' hgrow _;obtain ⟨g',cap',rfl⟩:=ownsRow_succ hown';obtain ⟨hv1,hv2,hr2,hk2,hb2⟩:=hv.appended (by decide) hrow hB.size (Nat.le_refl _) hown' hgrow;have hc1:=hv1.cell;have hf1:=hv1.frozen)
  exact ⟨hk2.from _,hb2,⟨_,hv2,by simpa [zak] using hr2,trivial⟩,hB.trans hb2⟩
 case done=>
  rintro D ys W hD rfl ⟨⟨v,hv,hrow,_⟩,hB⟩ hK
  have hc:=hv.cell
  gi_wp2
  refine ⟨by simp,.inl ⟨_,_,rfl,run_takeDeferred hK, ?_⟩⟩
  exact ⟨_,results_tmp rfl _ _ _,v,rfl,ownsRow_putObj hrow _ hK rfl,hB.trans (belowK_b (w:=w) (Nat.le_refl _) W D _ _ (by simp at hD;omega) hK rfl rfl)⟩
 case stop=>
  rintro D c pre W _ _ h _
  exact h.elim
theorem appendSeq_values (Bs cap:Nat) (A:Option Addr) (xs:List ByteArray) (hlen:xs.length≤1000) (w:World) (hBs:Bs<w.heap.size) (hcB:w.cell? ⟨Bs,0,none⟩=some (.slice A xs.length cap)) (hL:Reads w w.heap.size 1 A xs.length (zak xs)):
 Calls Tryz.prog 249 #[.slice none 0 0,.func (.func 206) #[] #[.pointer (some ⟨Bs,0,none⟩)]] w fun e W'=>∃v,e= .returned v∧W'.ownsRow w.heap.size 9 1 v xs.length (zak xs)∧Below w.heap.size w W':=
 (callsIn_wide (n:=6)).1 (appendSeq_in Fence.wide 6 trivial trivial rfl (by omega) Bs cap A xs hlen w hBs hcB hL)
theorem collect_values (Bs cap:Nat) (A:Option Addr) (xs:List ByteArray) (hlen:xs.length≤1000) (w:World) (hBs:Bs<w.heap.size) (hcB:w.cell? ⟨Bs,0,none⟩=some (.slice A xs.length cap)) (hL:Reads w w.heap.size 1 A xs.length (zak xs)):
 Calls Tryz.prog 204 #[.func (.func 206) #[] #[.pointer (some ⟨Bs,0,none⟩)]] w fun e W'=>∃v,e= .returned v∧W'.ownsRow w.heap.size 9 1 v xs.length (zak xs)∧Below w.heap.size w W':=by
 have HA:=Lib.hid (appendSeq_values Bs cap A xs hlen w hBs hcB hL)
 clear hcB hL hBs
 go_enter Tryz.func204,Tryz.ntmps204
 go_wp2_with fail
 refine HA.out.mono ?_
 rintro e w1 ⟨v,rfl,ho,hb⟩
 go_wp2
 go_ret
 exact ⟨v,rfl,ho,hb⟩
end Go.Proofs.YthkfhfldoniolaaGreatDoor
