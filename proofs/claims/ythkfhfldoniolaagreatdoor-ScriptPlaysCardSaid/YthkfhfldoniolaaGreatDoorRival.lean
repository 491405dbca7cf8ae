/-
  A stable insertion sort by one order of a list that another order has laid: it is the sort by both. rival.Order and rival.Host. slices.SortStableFunc at texts by rival.Order's closure; rival.Order; rival.Host.
-/
import Derived.Sort.WalkA
import Derived.Sort.Lot0
import Derived.Test.YthkfhfldoniolaaGreatDoorSorted
import Derived.Test.YthkfhfldoniolaaGreatDoorRinged
import Derived.Test.YthkfhfldoniolaaGreatDoorShelf
import Derived.Test.YthkfhfldoniolaaGreatDoorLists
import Derived.Test.YthkfhfldoniolaaGreatDoorTexts
set_option maxHeartbeats 1000000
namespace Go.Proofs.YthkfhfldoniolaaGreatDoor
open Go.Sort Go.Proofs
theorem extract_all {α:Type} (a:Array α) {n:Nat} (h:a.size=n):a.extract 0 n=a:=by subst h;simp
section
variable {α:Type} [Inhabited α] (lt1 lt2:α→α→Bool) (N:α→α→Prop)
theorem insInner_eq (hEq:∀x y,N x y→lt1 x y=lt2 x y):∀(j:Nat) (d:Array α),j<d.size→(∀k,k<j→N d[j]! d[k]!)→insInner lt1 0 j d=insInner lt2 0 j d
 |0,d,_,_=>by unfold insInner;rfl
 |j+1,d,hj,hN=>by
   unfold insInner
   rw [hEq _ _ (hN j (by omega))]
   split
   ·refine insInner_eq hEq j _ (by rw [swp_size];omega) fun k hk=> ?_
    rw [swp_right d (j+1) j (by omega),swp_other d (j+1) j k (by omega) (by omega)]
    exact hN k (by omega)
   ·rfl
theorem zga (lt:α→α→Bool):∀(j:Nat) (d:Array α),j<d.size→PermIn 0 (j+1) d (insInner lt 0 j d)
 |0,d,_=>by unfold insInner;exact permIn_refl _ _ _
 |j+1,d,hj=>by
   unfold insInner
   split
   ·have h1:=swp_permIn d 0 (j+1+1) (j+1) j (by omega) (by omega) (by omega) (by omega) (by omega)
    have h2:=zga lt j (swp d (j+1) j) (by rw [swp_size];omega)
    exact permIn_trans _ _ _ _ _ h1 (permIn_mono _ _ 0 (j+1) 0 (j+1+1) (by omega) (by omega) (by rw [swp_size];omega) h2)
   ·exact permIn_refl _ _ _
theorem insOuter_eq (hEq:∀x y,N x y→lt1 x y=lt2 x y) (b:Nat):∀(n i:Nat) (d:Array α),b-i=n→b≤d.size→(∀k m,k<i→i≤m→m<b→N d[m]! d[k]!)→(∀k m,i≤k→k<m→m<b→N d[m]! d[k]!)→insOuter lt1 0 b i d=insOuter lt2 0 b i d
 |0,i,d,hn,_,_,_=>by
   rw [insOuter_stop _ _ _ _ _ (by omega),insOuter_stop _ _ _ _ _ (by omega)]
 |n+1,i,d,hn,hb,h1,h2=>by
   have hlt:i<b:=by omega
   have hp:=zga lt2 i d (by omega)
   rw [insOuter_go _ _ _ _ _ hlt,insOuter_go _ _ _ _ _ hlt,insInner_eq lt1 lt2 N hEq i d (by omega) fun k hk=>h1 k i hk (Nat.le_refl _) hlt]
   have hsame:∀m,i+1≤m→(insInner lt2 0 i d)[m]! =d[m]! :=fun m hm=>hp.2.1 m (.inr hm)
   refine insOuter_eq hEq b n (i+1) _ (by omega) (by rw [hp.1];exact hb) (fun k m hk hm hmb=> ?_) (fun k m hk hkm hmb=> ?_)
   ·rw [hsame m hm]
    refine permIn_all d _ 0 (i+1) (fun x=>N d[m]! x) (by omega) hp (fun k' _ hk'=> ?_) k (by omega) hk
    by_cases hki:k'<i
    ·exact h1 k' m hki (by omega) hmb
    ·exact h2 k' m (by omega) (by omega) hmb
   ·rw [hsame m (by omega),hsame k hk]
    exact h2 k m (by omega) hkm hmb
theorem insertionSort_eq (hEq:∀x y,N x y→lt1 x y=lt2 x y) (d:Array α) (hN:∀k m,k<m→m<d.size→N d[m]! d[k]!):insertionSort lt1 d 0 d.size=insertionSort lt2 d 0 d.size:=by
 unfold insertionSort
 exact insOuter_eq lt1 lt2 N hEq d.size _ (0+1) d rfl (Nat.le_refl _) (fun k m hk hm hmb=>hN k m (by omega) hmb) (fun k m hk hkm hmb=>hN k m hkm hmb)
theorem stable_sort (hEq:∀x y,N x y→lt1 x y=lt2 x y) (hS:SWO lt2) (l:List α) (hN:l.Pairwise fun a b=>N b a):
 (insertionSort lt1 l.toArray 0 l.length).size=l.length∧(insertionSort lt1 l.toArray 0 l.length).toList.Perm l∧(insertionSort lt1 l.toArray 0 l.length).toList.Pairwise fun a b=>lt2 b a=false:=by
 have he:=insertionSort_eq lt1 lt2 N hEq l.toArray fun k m hk hm=>by
  have hm':m<l.length:=by simpa using hm
  have:=List.pairwise_iff_getElem.1 hN k m (by omega) hm' hk
  simpa [hm',show k<l.length by omega] using this
 simp only [List.size_toArray] at he
 rw [he]
 obtain ⟨hp,hs⟩:=insertionSort_holds hS l.toArray 0 l.length (by omega) (by simp)
 have hsz:(insertionSort lt2 l.toArray 0 l.length).size=l.length:=by rw [hp.1];simp
 refine ⟨hsz, ?_, ?_⟩
 ·have h3:=hp.2.2
  have e1:(insertionSort lt2 l.toArray 0 l.length).extract 0 l.length=insertionSort lt2 l.toArray 0 l.length:=extract_all _ hsz
  rw [e1] at h3
  simpa using h3
 ·rw [List.pairwise_iff_getElem]
  intro i j hi hj hij
  have hj':j<l.length:=by simpa [hsz] using hj
  have:=hs i j (by omega) hij hj'
  simpa [hsz,hj',show i<l.length by omega] using this
end
end Go.Proofs.YthkfhfldoniolaaGreatDoor
namespace Go.Proofs.YthkfhfldoniolaaGreatDoor
open Go.RowKit Go.Shelf Go.Sort
def twoN (a b:Nat):Nat:=Mx.turn (BitVec.ofNat 64 (Mx.turn a)^^^BitVec.ofNat 64 b).toNat
theorem two_any (a b:Nat) (w:World) (ha:U64 a) (hb:U64 b):Calls Tryz.prog 184 #[.int .u64 (a:Int),.int .u64 (b:Int)] w (zcD (twoN a b) w):=by
 have H1:=Lib.hid (zeU a w ha)
 have H2:=Lib.hid (zeU (BitVec.ofNat 64 (Mx.turn a)^^^BitVec.ofNat 64 b).toNat w (bv_u64 _))
 have e:bits .xor .u64 ((Mx.turn a:Nat):Int) (b:Int)=((BitVec.ofNat 64 (Mx.turn a)^^^BitVec.ofNat 64 b).toNat:Int):=by
  have:=bv_xor (BitVec.ofNat 64 (Mx.turn a)) (BitVec.ofNat 64 b)
  rwa [bv_of _ (turn_u64 a),bv_of _ hb] at this
 unfold zcD twoN
 generalize (BitVec.ofNat 64 (Mx.turn a)^^^BitVec.ofNat 64 b).toNat=x at*
 generalize Mx.turn a=t at*
 generalize Mx.turn x=y at*
 clear ha hb
 go_enter Tryz.func184,Tryz.ntmps184
 go_wp2_with fail
 refine H1.out.mono ?_
 rintro e w1 ⟨rfl,rfl⟩
 go_wp2_with fail
 refine H2.out.mono ?_
 rintro e w1 ⟨rfl,rfl⟩
 go_wp2
 go_ret
 exact ⟨rfl,rfl⟩
def score (s:ByteArray) (key:Nat):Nat:=twoN (ofN s 3) key
theorem score_any (s:ByteArray) (key:Nat) (w:World) (hs:s.size≤maxLen) (hk:U64 key):Calls Tryz.prog 147 #[.string s,.int .u64 (key:Int)] w (zcD (score s key) w):=by
 have H1:Hid (Calls Tryz.prog 138 #[.string s,.int .u64 3] w (zcD (ofN s 3) w)):=Lib.hid (of_any s 3 w hs (by unfold U64;omega))
 have H2:=Lib.hid (two_any (ofN s 3) key w (ofN_lt s 3) hk)
 unfold score
 generalize twoN (ofN s 3) key=y at*
 generalize ofN s 3=x at*
 clear hs hk
 go_enter Tryz.func147,Tryz.ntmps147
 go_wp2_with fail
 refine H1.out.mono ?_
 rintro e w1 ⟨rfl,rfl⟩
 go_wp2_with fail
 refine H2.out.mono ?_
 rintro e w1 ⟨rfl,rfl⟩
 go_wp2
 go_ret
 exact ⟨rfl,rfl⟩
def cfR (key:Nat) (a b:ByteArray):Int:=cmpN (score b key) (score a key)
def ltR (key:Nat) (a b:ByteArray):Bool:=decide (score b key<score a key)||(decide (score a key=score b key)&&ltB a b)
theorem ltR_eq (key:Nat) (x y:ByteArray) (h:ltB x y=false):ltOf (cfR key) x y=ltR key x y:=by
 unfold ltOf cfR cmpN ltR
 rw [h]
 by_cases h1:score y key<score x key
 ·simp [h1]
 ·by_cases h2:score x key<score y key
  ·simp [h1,h2]
  ·simp [h1,h2]
theorem ltR_tri {key:Nat} {x y:ByteArray} (h1:ltR key x y=false) (h2:ltR key y x=false):x=y:=by
 simp only [ltR,Bool.or_eq_false_iff,Bool.and_eq_false_iff,decide_eq_false_iff_not] at h1 h2
 have e:score x key=score y key:=by omega
 rcases h1.2 with h|h
 ·exact absurd e h
 ·rcases h2.2 with h'|h'
  ·exact absurd e.symm h'
  ·exact ltB_tri h h'
theorem ltR_irrefl (key:Nat) (x:ByteArray):ltR key x x=false:=by simp [ltR,zeM]
theorem zfS {key:Nat} {x y z:ByteArray} (h1:ltR key x y=true) (h2:ltR key y z=true):ltR key x z=true:=by
 simp only [ltR,Bool.or_eq_true,Bool.and_eq_true,decide_eq_true_eq] at*
 rcases h1 with h1|⟨h1,g1⟩<;>rcases h2 with h2|⟨h2,g2⟩
 ·exact .inl (by omega)
 ·exact .inl (by omega)
 ·exact .inl (by omega)
 ·exact .inr ⟨by omega,zfC g1 g2⟩
theorem ltR_ntrans {key:Nat} {x y z:ByteArray} (h1:ltR key x y=false) (h2:ltR key y z=false):ltR key x z=false:=by
 cases hyx:ltR key y x with
 |false=>rw [ltR_tri h1 hyx];exact h2
 |true=>
  rw [Bool.eq_false_iff] at*
  intro h
  exact h2 (zfS hyx h)
theorem swo_R (key:Nat):SWO (ltR key):=⟨ltR_irrefl key,fun _ _ _ h1 h2=>zfS h1 h2,fun _ _ _ h1 h2=>ltR_ntrans h1 h2⟩
def IsOrder (key:Nat) (l s:List ByteArray):Prop:=s.Perm l∧s.Pairwise fun a b=>ltR key b a=false
theorem IsOrder.unique {key:Nat} {l s s':List ByteArray} (h:IsOrder key l s) (h':IsOrder key l s'):s=s':=
 List.Perm.eq_of_pairwise (le:=fun a b=>ltR key b a=false) (fun _ _ _ _ h1 h2=>ltR_tri h2 h1) h.2 h'.2 (h.1.trans h'.1.symm)
def zbm (key:Nat) (l:List ByteArray):List ByteArray:=(insertionSort (ltOf (cfR key)) (za6 l).toArray 0 (za6 l).length).toList
theorem zbY (key:Nat) (l:List ByteArray):IsOrder key l (zbm key l):=by
 obtain ⟨hp,hs⟩:=zbR l
 obtain ⟨_,h2,h3⟩:=stable_sort (ltOf (cfR key)) (ltR key) (fun x y=>ltB x y=false) (fun x y h=>ltR_eq key x y h) (swo_R key) (za6 l) hs
 exact ⟨h2.trans hp,h3⟩
theorem zfB (key:Nat) (l:List ByteArray):(zbm key l).length=l.length:=(zbY key l).1.length_eq
set_option maxRecDepth 100000 in
theorem order1_any (x y:ByteArray) (kb key:Nat) (w:World) (hx:x.size≤maxLen) (hy:y.size≤maxLen) (hk:U64 key) (hc:w.cell? ⟨kb,0,none⟩=some (.int .u64 (key:Int))):
 Calls Tryz.prog 146 #[.string x,.string y,.pointer (some ⟨kb,0,none⟩)] w fun e w'=>e= .returned (.int .i64 (cfR key x y))∧∃q,w'=w.drewN q:=by
 have HX:=Lib.hid (fun W=>score_any x key W hx hk)
 have HY:=Lib.hid (fun W=>score_any y key W hy hk)
 have HC:=Lib.hid (fun W=>cmp_u64 (score y key) (score x key) W)
 unfold zcD at HX HY
 unfold IntQ at HC
 unfold cfR
 generalize score y key=sy at*
 generalize score x key=sx at*
 generalize cmpN sy sx=c at*
 clear hx hy hk
 go_enter Tryz.func146,Tryz.ntmps146
 go_wp2_with fail
 go_quiet ((first
  |(go_at_call 147;first|exact zeF (HX.out _)|exact zeF (HY.out _))
  |(go_at_call 142;exact zeF (HC.out _))))
 go_wp2
 go_ret
 exact ⟨rfl,_,rfl⟩
end Go.Proofs.YthkfhfldoniolaaGreatDoor
namespace Go.Proofs.YthkfhfldoniolaaGreatDoor
open Go.RowKit Go.Shelf Go.Sort
abbrev TxS:={ s:ByteArray//s.size≤maxLen }
instance :Inhabited TxS:=⟨⟨ByteArray.empty,Nat.zero_le _⟩⟩
theorem lift_txs:∀l:List ByteArray,(∀s∈l,s.size≤maxLen)→∃l':List TxS,l'.map (·.1)=l
 |[],_=>⟨[],rfl⟩
 |s::l,h=>by
   obtain ⟨l',hl⟩:=lift_txs l fun x hx=>h x (List.mem_cons_of_mem _ hx)
   exact ⟨⟨s,h s List.mem_cons_self⟩::l',by simp [hl]⟩
def encT (x:TxS):Value:= .string x.1
theorem strV_txs (l:List TxS):zak (l.map (·.1))=l.map encT:=by
 unfold zak
 rw [List.map_map];rfl
def SortedS (B g n cap:Nat) (xs:List Value) (w:World) (e:Ending) (w':World):Prop:=
 e= .returned (.tuple #[])∧w'.ownsRow B 9 1 (.slice (some ⟨g,0,none⟩) n cap) n xs∧w.grownBy w' (some g)
theorem ins_order {B g n cap kb key:Nat} (l:List ByteArray) (w:World) (hl:∀s∈l,s.size≤maxLen) (hn:l.length=n) (hn2:n≤12) (ho:w.ownsRow B 9 1 (.slice (some ⟨g,0,none⟩) n cap) n (zak (za6 l))) (hk:U64 key) (hK:Blk w kb 55 #[.int .u64 (key:Int)]) (hkg:kb≠g):
 Calls Tryz.prog 231 #[.slice (some ⟨g,0,none⟩) n cap,.int .i64 0,.int .i64 (n:Int),.func (.func 146) #[] #[.pointer (some ⟨kb,0,none⟩)]] w (SortedS B g n cap (zak (zbm key l)) w):=by
 obtain ⟨hp,hs⟩:=zbR l
 obtain ⟨l',hl'⟩:=lift_txs (za6 l) fun s h=>hl s (hp.mem_iff.1 h)
 have hlen:l'.length=n:=by rw [←hn,←zcd l,←hl'];simp
 have eg:∀args w,(callFunc 146 args).run Tryz.prog w= .ok (.enter 146 args) w:=enters_of Tryz.func146 (by kernel_rfl) rfl
 rw [←hl',strV_txs] at ho
 have hH:Holds encT w g 0 l'.toArray:=holds_map encT (by simpa using zf9 ho)
 have hcmp:CmpReads Tryz.prog 146 #[.pointer (some ⟨kb,0,none⟩)] encT (fun x y=>cfR key x.1 y.1) g 0 l'.toArray.size w:=by
  intro m os dk _ x y
  have hg:w.grownBy (sortWorld encT w g 0 m dk os) (some g):=by
   unfold sortWorld
   rw [zeC]
   exact zfg _
  have hc:=(hK.grown hg (fun e=>hkg (Option.some.inj e))).cell 0
  exact order1_any x.1 y.1 kb key _ x.2 y.2 hk hc
 have hcon:=Any.insertionSortCmpFunc_one Tryz.insStr encT (fun _=>rfl) (fun x y=>cfR key x.1 y.1) 146 #[.pointer (some ⟨kb,0,none⟩)] g 0 cap 0 n l'.toArray w eg hcmp hH (Nat.zero_le _) (by simp [hlen]) (by simp;omega)
 change Calls Tryz.prog 231 _ _ _ at hcon
 refine (by simpa [hlen] using hcon:Calls Tryz.prog 231 #[.slice (some ⟨g,0,none⟩) n cap,.int .i64 0,.int .i64 (n:Int),.func (.func 146) #[] #[.pointer (some ⟨kb,0,none⟩)]] w _).mono ?_
 rintro e w' ⟨rfl,q,rfl⟩
 obtain ⟨h1,h2,h3⟩:=stable_sort (ltOf fun x y:TxS=>cfR key x.1 y.1) (fun x y=>ltR key x.1 y.1) (fun x y=>ltB x.1 y.1=false) (fun x y h=>ltR_eq key x.1 y.1 h)
  ⟨fun x=>ltR_irrefl key x.1,fun _ _ _ h1 h2=>zfS h1 h2,fun _ _ _ h1 h2=>ltR_ntrans h1 h2⟩ l' (by rw [←hl',List.pairwise_map] at hs;exact hs)
 rw [hlen] at h1 h2 h3
 have hord:(insertionSort (ltOf fun x y:TxS=>cfR key x.1 y.1) l'.toArray 0 n).toList.map (·.1)=zbm key l:=by
  refine IsOrder.unique (key:=key) (l:=l) ⟨?_, ?_⟩ (zbY key l)
  ·have:=h2.map (·.1)
   rw [hl'] at this
   exact this.trans hp
  ·rw [List.pairwise_map];exact h3
 refine ⟨rfl, ?_⟩
 have hput:=own_put (ys:=zak (zbm key l)) ho (by rw [←hord];simp [zak,h1,hlen]) q #[]
 rw [←hord,strV_txs] at hput
 rw [←sortWorld_none]
 unfold sortWorld
 rw [zeC,←hord,strV_txs]
 have he:((insertionSort (ltOf fun x y:TxS=>cfR key x.1 y.1) l'.toArray 0 n).map encT)=((insertionSort (ltOf fun x y:TxS=>cfR key x.1 y.1) l'.toArray 0 n).toList.map encT).toArray:=by rw [←Array.toList_map,Array.toArray_toList]
 rw [he]
 exact hput
set_option maxRecDepth 100000 in
theorem stable_order {B g n cap kb key:Nat} (l:List ByteArray) (w:World) (hl:∀s∈l,s.size≤maxLen) (hn:l.length=n) (hn2:n≤12) (ho:w.ownsRow B 9 1 (.slice (some ⟨g,0,none⟩) n cap) n (zak (za6 l))) (hk:U64 key) (hK:Blk w kb 55 #[.int .u64 (key:Int)]) (hkg:kb≠g):
 Calls Tryz.prog 183 #[.slice (some ⟨g,0,none⟩) n cap,.int .i64 (n:Int),.func (.func 146) #[] #[.pointer (some ⟨kb,0,none⟩)]] w (SortedS B g n cap (zak (zbm key l)) w):=by
 have HI:=Lib.hid (ins_order l w hl hn hn2 ho hk hK hkg)
 have hi2:(n:Int)≤12:=by omega
 clear hl hn ho hK
 go_enter Tryz.func183,Tryz.ntmps183
 go_wp2_with fail
 go_loop [7,8] (fun a b=>a= .int .i64 0∧b= .int .i64 20) (fun _ _=>0)
 case atStart=>exact ⟨rfl,rfl⟩
 case round=>
  obtain ⟨rfl,rfl⟩:=hrel
  go_wp2_with fail
  refine HI.out.mono ?_
  rintro e w1 ⟨rfl,ho1,hg1⟩
  go_wp2_with fail
  go_loop [6] (fun a=>a= .int .i64 20) (fun _=>0)
  case atStart=>exact rfl
  case round=>
   subst hrel
   go_wp2
   go_end0
   exact ⟨rfl,ho1,hg1⟩
set_option maxRecDepth 100000 in
theorem sortStable_order {B g n cap kb key:Nat} (l:List ByteArray) (w:World) (hl:∀s∈l,s.size≤maxLen) (hn:l.length=n) (hn2:n≤12) (ho:w.ownsRow B 9 1 (.slice (some ⟨g,0,none⟩) n cap) n (zak (za6 l))) (hk:U64 key) (hK:Blk w kb 55 #[.int .u64 (key:Int)]) (hkg:kb≠g):
 Calls Tryz.prog 145 #[.slice (some ⟨g,0,none⟩) n cap,.func (.func 146) #[] #[.pointer (some ⟨kb,0,none⟩)]] w (SortedS B g n cap (zak (zbm key l)) w):=by
 have HI:=Lib.hid (stable_order l w hl hn hn2 ho hk hK hkg)
 clear hl hn ho hK
 go_enter Tryz.func145,Tryz.ntmps145
 go_wp2_with fail
 refine HI.out.mono ?_
 rintro e w1 ⟨rfl,ho1,hg1⟩
 go_wp2
 go_end0
 exact ⟨rfl,ho1,hg1⟩
def zc0 (l:List ByteArray):Option Flt:=if l.length=0 then some ⟨5,none⟩ else zaf l
def zcG (ea:Nat→Addr) (l:List ByteArray) (key:Nat) (w:World) (e:Ending) (w':World):Prop:=match zc0 l with
 |some f=>zcC ea f w e w'
 |none=>∃g cap,e= .returned (.tuple #[.slice (some ⟨g,0,none⟩) l.length cap,.nilIface])∧w'.ownsRow w.heap.size 9 1 (.slice (some ⟨g,0,none⟩) l.length cap) l.length (zak (zbm key l))∧Below w.heap.size w w'
structure TextsIn (w:World) (A:Option Addr) (c:Nat) (l:List ByteArray):Prop where
 r:Reads w w.heap.size 1 A l.length (zak l)
 lc:l.length≤c
 lm:l.length≤maxLen
 s:∀s∈l,s.size≤maxLen
theorem TextsIn.below {w w':World} {A:Option Addr} {c:Nat} {l:List ByteArray} (h:TextsIn w A c l) (hb:Below w.heap.size w w'):TextsIn w' A c l:=
 ⟨(h.r.below hb).more hb.size,h.lc,h.lm,h.s⟩
set_option maxRecDepth 100000 in
theorem order_any (ea:Nat→Addr) (A:Option Addr) (c:Nat) (l:List ByteArray) (key:Nat) (w:World) (hE:ErrsR ea w) (hI:TextsIn w A c l) (hk:U64 key):
 Calls Tryz.prog 93 #[.slice A l.length c,.int .u64 (key:Int)] w (zcG ea l key w):=by
 have hbK:Below w.heap.size w (w.alloc (.cells #[.int .u64 (key:Int)] 55)):=(Below.refl _ _).alloc (Nat.le_refl _) _
 have hlm:=hI.lm
 unfold maxLen at hlm
 by_cases h0:l.length=0
 ·have HP:Hid (∀e w',zcC ea ⟨5,none⟩ w e w'→zcG ea l key w e w'):=Lib.hid fun e w' h=>by
   unfold zcG zc0;rw [if_pos h0];exact h
  have z0:((l.length:Int)==0)=true:=beq_iff_eq.2 (by omega)
  have z1:l=[]:=List.eq_nil_of_length_eq_zero h0
  have c5:=(hE.below hbK).c5
  dsimp only [gv] at c5
  subst z1
  clear hE hI h0
  go_enter Tryz.func93,Tryz.ntmps93
  go_wp2
  go_quiet (fail)
  go_wp2
  go_ret2
  exact HP.out _ _ ⟨_,_,rfl,⟨rfl,rfl⟩,below_drewN hbK _⟩
 have z0:((l.length:Int)==0)=false:=beq_eq_false_iff_ne.2 (by omega)
 have z1:¬l=[]:=fun e=>by simp [e] at h0
 cases hf:zaf l with
 |some f=>
  have HP:Hid (∀e w',zcC ea f w e w'→zcG ea l key w e w'):=Lib.hid fun e w' h=>by
   unfold zcG zc0;rw [if_neg h0,hf];exact h
  have HS:=Lib.hid (zfT ea A c l f _ (hE.below hbK).e3 (hI.below hbK).r hI.lc hI.lm hI.s hf)
  have HB:=Lib.hid hbK
  clear hE hI h0 hf
  go_enter Tryz.func93,Tryz.ntmps93
  go_wp2_with fail
  refine HS.out.mono ?_
  rintro e w1 ⟨t,a,rfl,hX,hb1⟩
  go_wp2
  go_ret2
  exact HP.out _ _ ⟨t,a,rfl,hX,zaa HB.out hb1⟩
 |none=>
  obtain ⟨h12,_,_⟩:=zal.1 hf
  have HP:Hid (∀e w',(∃g cap,e= .returned (.tuple #[.slice (some ⟨g,0,none⟩) l.length cap,.nilIface])∧w'.ownsRow w.heap.size 9 1 (.slice (some ⟨g,0,none⟩) l.length cap) l.length (zak (zbm key l))∧Below w.heap.size w w')→zcG ea l key w e w'):=Lib.hid fun e w' h=>by
   unfold zcG zc0;rw [if_neg h0,hf];exact h
  have HS:=Lib.hid (zes ea A c l _ (hE.below hbK).e3 (hI.below hbK).r hI.lc hI.lm hI.s hf)
  have HB:=Lib.hid hbK
  have HK:=Lib.hid (Blk.new w 55 #[.int .u64 (key:Int)])
  have HSO:=Lib.hid (fun (g cap:Nat) (W:World) ho hK hkg=>sortStable_order (B:=w.heap.size+1) (g:=g) (cap:=cap) (kb:=w.heap.size) l W hI.s rfl h12 ho hk hK hkg)
  clear hE hI hf
  go_enter Tryz.func93,Tryz.ntmps93
  go_wp2_with fail
  refine HS.out.mono ?_
  rintro e w1 ⟨A1,c1,rfl,ho1,hb1⟩
  obtain ⟨g,cap',hv,_,_⟩:=ho1.form (by omega)
  have hA:A1=some ⟨g,0,none⟩:=by injection hv
  subst hA
  rw [World.size_alloc] at ho1
  have hgl:w.heap.size+1≤g:=(ho1.lt g rfl).1
  have hK1:Blk w1 w.heap.size 55 #[.int .u64 (key:Int)]:=HK.out.below hb1 (by simp)
  have HSS:=Lib.hid (HSO.out g c1 w1 ho1 hK1 (by omega))
  have HB1:=Lib.hid (zaa HB.out hb1)
  clear hv ho1 hK1
  go_wp2_with fail
  refine HSS.out.mono ?_
  rintro e w2 ⟨rfl,ho2,hg2⟩
  have hb2:=HB1.out.grown hg2 HB1.out.size (fun k e=>by cases e;omega)
  have ho3:=ho2.mono (show w.heap.size≤w.heap.size+1 by omega)
  go_wp2
  go_ret2
  exact HP.out _ _ ⟨g,c1,rfl,ho3,hb2⟩
end Go.Proofs.YthkfhfldoniolaaGreatDoor
