/-
  slices.Sorted over slices.Values, and mix.Sorted.
-/
import Derived.Test.YthkfhfldoniolaaGreatDoorValues
import Derived.Test.YthkfhfldoniolaaGreatDoorShelf
import Derived.Test.YthkfhfldoniolaaGreatDoorCodeA
import Derived.Test.YthkfhfldoniolaaGreatDoorMixes
import Derived.Sort.OwnSorted
import Derived.Deep.Onto
import Derived.Shelf.SortM.SortNone
set_option maxHeartbeats 1000000
namespace Go.Proofs.YthkfhfldoniolaaGreatDoor
open Go.RowKit Go.Shelf Go.Sort
def za6 (l:List ByteArray):List ByteArray:=((l.map fun s=>s.data.toList).mergeSort fun x y=>decide (x≤y)).map fun s=>⟨s.toArray⟩
def IsSortB (l s:List ByteArray):Prop:=s.Perm l∧s.Pairwise fun a b=>ltB b a=false
theorem IsSortB.unique {l s s':List ByteArray} (h:IsSortB l s) (h':IsSortB l s'):s=s':=
 List.Perm.eq_of_pairwise (le:=fun a b=>ltB b a=false) (fun _ _ _ _ h1 h2=>ltB_tri h2 h1) h.2 h'.2 (h.1.trans h'.1.symm)
theorem zbR (l:List ByteArray):IsSortB l (za6 l):=by
 have hb:(fun s:List UInt8=>(⟨s.toArray⟩:ByteArray))∘(fun s:ByteArray=>s.data.toList)=id:=by
  funext s;simp
 refine ⟨?_, ?_⟩
 ·have h:=(List.mergeSort_perm (l.map fun s:ByteArray=>s.data.toList) (fun x y=>decide (x≤y))).map fun s:List UInt8=>(⟨s.toArray⟩:ByteArray)
  rw [List.map_map,hb,List.map_id] at h
  exact h
 ·have h:=List.pairwise_mergeSort (le:=fun x y:List UInt8=>decide (x≤y)) (fun a b c h1 h2=>by
   simp only [decide_eq_true_eq] at*;exact List.le_trans h1 h2) (fun a b=>by
   simp only [Bool.or_eq_true,decide_eq_true_eq];exact List.le_total a b) (l.map fun s:ByteArray=>s.data.toList)
  unfold za6
  rw [List.pairwise_map]
  refine h.imp fun {a b} hab=> ?_
  simp only [decide_eq_true_eq] at hab
  rw [Bool.eq_false_iff,ne_eq,ltB_iff]
  simpa using List.not_lt.2 hab
theorem zcd (l:List ByteArray):(za6 l).length=l.length:=(zbR l).1.length_eq
theorem strV_sortB (l:List ByteArray):((l.map fun s=>s.data.toList).mergeSort fun x y=>decide (x≤y)).map encStr=zak (za6 l):=by
 unfold zak za6
 rw [List.map_map];rfl
theorem strV_enc (l:List ByteArray):zak l=(l.map fun s=>s.data.toList).map encStr:=by
 unfold zak
 rw [List.map_map]
 apply List.map_congr_left
 intro s _
 simp [encStr]
def SortedIs (l:List ByteArray) (w:World) (e:Ending) (w':World):Prop:=∃A cap,e= .returned (.slice A l.length cap)∧w'.ownsRow w.heap.size 9 1 (.slice A l.length cap) l.length (zak (za6 l))∧Below w.heap.size w w'
set_option maxRecDepth 100000 in
theorem sorted_values (Bs cap:Nat) (A:Option Addr) (xs:List ByteArray) (hlen:xs.length≤1000) (w:World) (hBs:Bs<w.heap.size) (hcB:w.cell? ⟨Bs,0,none⟩=some (.slice A xs.length cap)) (hL:Reads w w.heap.size 1 A xs.length (zak xs)):
 Calls Tryz.prog 162 #[.func (.func 206) #[] #[.pointer (some ⟨Bs,0,none⟩)]] w (SortedIs xs w):=by
 have HA:=Lib.hid (collect_values Bs cap A xs hlen w hBs hcB hL)
 clear hcB hL hBs
 go_enter Tryz.func162,Tryz.ntmps162
 go_wp2_with fail
 refine HA.out.mono ?_
 rintro e w1 ⟨v,rfl,hrow,hb⟩
 rw [strV_enc] at hrow
 rcases hrow.2 with ⟨rfl,hz⟩|⟨gb,cap,cur,rfl,hbase,hgb,r1,r2,r3,r4⟩
 ·have hss:xs=[]:=List.eq_nil_of_length_eq_zero hz
  subst hss
  have HS:=Lib.hid (AnyM.slices_Sort_string_none Tryz.sortStr none 0 w1)
  go_wp2_with fail
  refine HS.out.mono ?_
  rintro e w2 ⟨rfl,rfl⟩
  go_wp2
  go_ret
  exact ⟨none,0,rfl,⟨by simp [za6,zak],.inl ⟨rfl,rfl⟩⟩,hb⟩
 ·have hl:(xs.map fun s=>s.data.toList).length=xs.length:=by simp
  have hH:Holds encStr w1 gb 0 (xs.map fun s=>s.data.toList).toArray:=holds_of_block hgb (by rw [hl];simpa using r4)
  have hgl:gb<w1.heap.size:=(Array.getElem?_eq_some_iff.1 hgb).1
  have cS:=AnyM.slices_Sort_string Tryz.sortStr gb 0 cap (xs.map fun s=>s.data.toList) w1 hH hgl (by rw [hl];omega)
  rw [hl] at cS
  have HS:=Lib.hid cS
  have HR:Hid (∀n os,(grow (putRow encStr (Sort.ahead w1 n) gb 0 ((xs.map fun s=>s.data.toList).mergeSort fun x y=>decide (x≤y)).toArray) os).ownsRow w.heap.size 9 1 (.slice (some ⟨gb,0,none⟩) xs.length cap) xs.length (zak (za6 xs))):=Lib.hid fun n os=>by
   have h:=ownsRow_sorted (n:=n) (os:=os) (ts:=(xs.map fun s=>s.data.toList).mergeSort fun x y=>decide (x≤y)) (ss:=xs.map fun s=>s.data.toList) (by simp) hbase hgb (by rw [hl];exact r1) r2 r3
   rw [hl,strV_sortB] at h
   exact h
  have HB:Hid (∀n os,Below w.heap.size w (grow (putRow encStr (Sort.ahead w1 n) gb 0 ((xs.map fun s=>s.data.toList).mergeSort fun x y=>decide (x≤y)).toArray) os)):=Lib.hid fun n os=>hb.grown (grownBy_sorted _) hb.size (fun j hj=>by cases hj;exact hbase)
  clear hrow hH hgl cS hgb r1 r2 r3 r4 hl
  go_wp2_with fail
  refine HS.out.mono ?_
  rintro e w2 ⟨rfl,n,os,rfl⟩
  have hr2:=HR.out n os
  have hb2:=HB.out n os
  generalize grow (putRow encStr (Sort.ahead w1 n) gb 0 ((xs.map fun s=>s.data.toList).mergeSort fun x y=>decide (x≤y)).toArray) os=w2 at*
  go_wp2
  go_ret
  exact ⟨_,_,rfl,hr2,hb2⟩
def SortedGood (l:List ByteArray) (w:World) (e:Ending) (w':World):Prop:=∃A cap,e= .returned (.tuple #[.slice A l.length cap,.nilIface])∧w'.ownsRow w.heap.size 9 1 (.slice A l.length cap) l.length (zak (za6 l))∧Below w.heap.size w w'
def zcC (ea:Nat→Addr) (f:Flt) (w:World) (e:Ending) (w':World):Prop:=∃t a,e= .returned (.tuple #[.slice none 0 0,.iface t (.pointer (some a))])∧zd9 ea w' f t a∧Below w.heap.size w w'
set_option maxRecDepth 100000 in
theorem zes (ea:Nat→Addr) (A:Option Addr) (c:Nat) (l:List ByteArray) (w:World) (hE:zfo ea w) (hr:Reads w w.heap.size 1 A l.length (zak l)) (hlc:l.length≤c) (hl:l.length≤maxLen) (hs:∀s∈l,s.size≤maxLen) (ho:zaf l=none):
 Calls Tryz.prog 119 #[.slice A l.length c] w (SortedGood l w):=by
 have h12:=(zal.1 ho).1
 have HC:=Lib.hid (zdD ea A c w.heap.size l w hE hr (Nat.le_refl _) hlc hl hs)
 unfold zby at HC
 rw [ho] at HC
 have HR:=Lib.hid hr
 clear hE hr hs ho
 go_enter Tryz.func119,Tryz.ntmps119
 go_wp2_with fail
 refine HC.out.mono ?_
 rintro e w1 ⟨rfl,hb1⟩
 go_wp2_with fail
 refine (values_any A l.length c w1).mono ?_
 rintro e w2 ⟨rfl,rfl⟩
 have hB:Below w1.heap.size w1 (w1.alloc (.cells #[.slice A l.length c] 24)):=(Below.refl _ _).alloc (Nat.le_refl _) _
 have hb2:=zaa hb1 hB
 have HS:=Lib.hid (sorted_values w1.heap.size c A l (by omega) (w1.alloc (.cells #[.slice A l.length c] 24)) (by simp) ((Blk.new w1 _ _).cell 0) ((HR.out.below hb2).more hb2.size))
 go_wp2_with fail
 refine HS.out.mono ?_
 rintro e w3 ⟨A3,c3,rfl,ho3,hb3⟩
 have ho4:=ho3.mono hb2.size
 go_wp2
 go_ret2
 exact ⟨A3,c3,rfl,ho4,zaa hb2 hb3⟩
set_option maxRecDepth 100000 in
theorem zfT (ea:Nat→Addr) (A:Option Addr) (c:Nat) (l:List ByteArray) (f:Flt) (w:World) (hE:zfo ea w) (hr:Reads w w.heap.size 1 A l.length (zak l)) (hlc:l.length≤c) (hl:l.length≤maxLen) (hs:∀s∈l,s.size≤maxLen) (ho:zaf l=some f):
 Calls Tryz.prog 119 #[.slice A l.length c] w (zcC ea f w):=by
 have HC:=Lib.hid (zdD ea A c w.heap.size l w hE hr (Nat.le_refl _) hlc hl hs)
 unfold zby at HC
 rw [ho] at HC
 clear hE hr hs ho
 go_enter Tryz.func119,Tryz.ntmps119
 go_wp2_with fail
 refine HC.out.mono ?_
 rintro e w1 ⟨t,a,rfl,hI,hb1⟩
 go_wp2
 go_ret2
 exact ⟨t,a,rfl,hI,hb1⟩
end Go.Proofs.YthkfhfldoniolaaGreatDoor
