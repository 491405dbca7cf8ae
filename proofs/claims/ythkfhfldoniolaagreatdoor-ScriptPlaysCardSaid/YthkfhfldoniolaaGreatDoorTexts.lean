/-
  The walks of mix.Name and IsName: is it the name of a host? The walks of what goes over lists of texts: slices.Index, slices.Contains, R.Index, SameTexts, LongHosts, OwnTexts. Small words that many texts share. What stays: all blocks but those of some types. A row of the call's own, and what the library's functions lay into it: over any program.
-/
import Derived.Test.YthkfhfldoniolaaGreatDoorBaseA
import Derived.Lib.ConvBytes
import Derived.Lib.Strings
import Derived.Sort.Grow
import Derived.Shelf.GgSortFunc.RowK
set_option maxHeartbeats 1000000
namespace Go.Proofs.YthkfhfldoniolaaGreatDoor
open Go.RowKit
def nb (n:Nat):Bool:=(decide (97≤n)&&decide (n≤122))||(decide (48≤n)&&decide (n≤57))||decide (n=45)
def bytesV (l:List Nat):List Value:=l.map fun n:Nat=>Value.int .u8 (n:Int)
theorem zeI {a b:Bool} (h:a=b):Ending.returned (.bool a)= .returned (.bool b):=by rw [h]
def NotNb (n:Nat) (w:World) (e:Ending) (w':World):Prop:=e= .returned (.bool (!nb n))∧w=w'
theorem other_byte (n:Nat) (w:World):Calls Tryz.prog 131 #[.int .u8 (n:Int)] w (NotNb n w):=by
 unfold NotNb
 go_enter Tryz.func131,Tryz.ntmps131
 go_wp2
 all_goals (go_ret;refine ⟨zeI ?_,rfl⟩;rw [Bool.eq_iff_iff];simp [nb];omega)
def IndexPost (l:List Nat) (w:World) (e:Ending) (w':World):Prop:=(∃i:Int,e= .returned (.int .i64 i)∧(decide (0≤i)=l.any fun n=> !nb n))∧w=w'
theorem bytes_at {w:World} {B:Nat} {A:Option Addr} {l:List Nat} {k:Nat} (h:Reads w B 1 A l.length (bytesV l)) (hk:k<l.length):
 ∃ad,A=some ad∧w.cell? (ad.add k)=some (.int .u8 ((l[k]:Nat):Int)):=by
 obtain ⟨ad,u,hA,_,hx,hc⟩:=h.at_ hk
 refine ⟨ad,hA, ?_⟩
 rw [hc]
 simp [bytesV,hk] at hx
 rw [hx]
theorem any_step {l:List Nat} {k:Nat} {f:Nat→Bool} (hk:k<l.length) (h:(l.take k).any f=false) (hf:f l[k]=false):(l.take (k+1)).any f=false:=by
 rw [List.take_succ_eq_append_getElem hk,List.any_append,h];simp [hf]
theorem any_hit {l:List Nat} {k:Nat} {f:Nat→Bool} (hk:k<l.length) (hf:f l[k]=true):l.any f=true:=List.any_eq_true.2 ⟨_,List.getElem_mem hk,hf⟩
theorem indexFunc_bytes (A:Option Addr) (c B:Nat) (l:List Nat) (w:World) (hr:Reads w B 1 A l.length (bytesV l)) (hl:l.length≤maxLen):
 Calls Tryz.prog 171 #[.slice A l.length c,.func (.func 131) #[] #[]] w (IndexPost l w):=by
 unfold maxLen at hl
 go_enter Tryz.func171,Tryz.ntmps171
 go_wp2_with fail
 go_loop [5,8] (fun _ iv=>∃k:Nat,k≤l.length∧iv= .int .i64 (k:Int)∧Hid ((l.take k).any (fun n=> !nb n)=false)) (fun _ iv=>l.length- (intOf iv).toNat)
 case atStart=>exact ⟨0,Nat.zero_le _,rfl,Lib.hid (by simp)⟩
 case round=>
  obtain ⟨k,hk,rfl,ht⟩:=hrel
  by_cases hlt:k<l.length
  ·obtain ⟨ad,rfl,hc⟩:=bytes_at hr hlt
   have hlt2:(k:Int)<l.length:=by omega
   have HO:=Lib.hid (fun W=>other_byte l[k] W)
   cases hnb:nb l[k] with
   |true=>
    have Hnb:=Lib.hid hnb
    have HO':Hid (∀W,Calls Tryz.prog 131 #[.int .u8 ((l[k]:Nat):Int)] W fun e w'=>e= .returned (.bool false)∧W=w'):=
     Lib.hid fun W=>(HO.out W).mono fun e w' h=>⟨by rw [h.1,Hnb.out];rfl,h.2⟩
    clear hnb HO
    go_wp2_with (go_at_call 131;refine (HO'.out _).mono ?_;rintro e w1 ⟨rfl,rfl⟩)
    go_round
    case rel=>exact ⟨k+1,by omega,by go_num,Lib.hid (any_step hlt ht.out (by rw [Hnb.out];rfl))⟩
    case measure=>simp [intOf];omega
   |false=>
    have Hnb:=Lib.hid hnb
    have HO':Hid (∀W,Calls Tryz.prog 131 #[.int .u8 ((l[k]:Nat):Int)] W fun e w'=>e= .returned (.bool true)∧W=w'):=
     Lib.hid fun W=>(HO.out W).mono fun e w' h=>⟨by rw [h.1,Hnb.out];rfl,h.2⟩
    clear hnb HO
    go_wp2_with (go_at_call 131;refine (HO'.out _).mono ?_;rintro e w1 ⟨rfl,rfl⟩)
    go_ret
    exact ⟨⟨_,rfl,by rw [any_hit hlt (by rw [Hnb.out];rfl)];simp⟩,rfl⟩
  ·have hge:(l.length:Int)≤k:=by omega
   go_wp2
   go_ret
   refine ⟨⟨_,rfl, ?_⟩,rfl⟩
   have h:=ht.out
   rw [List.take_of_length_le (by omega)] at h
   rw [h];rfl
theorem zfK (A:Option Addr) (c B:Nat) (l:List Nat) (w:World) (hr:Reads w B 1 A l.length (bytesV l)) (hl:l.length≤maxLen):
 Calls Tryz.prog 130 #[.slice A l.length c,.func (.func 131) #[] #[]] w fun e w'=>e= .returned (.bool (l.any fun n=> !nb n))∧w=w':=by
 have H:=Lib.hid (indexFunc_bytes A c B l w hr hl)
 clear hr hl
 go_enter Tryz.func130,Tryz.ntmps130
 go_wp2_with fail
 refine H.out.mono ?_
 rintro e w1 ⟨⟨i,rfl,hi⟩,rfl⟩
 have HI:=Lib.hid hi
 clear hi
 go_wp2
 go_ret
 exact ⟨zeI (by rw [←HI.out]),rfl⟩
def nums (s:ByteArray):List Nat:=s.data.toList.map UInt8.toNat
theorem nums_length (s:ByteArray):(nums s).length=s.size:=by simp [nums]
def isName (s:ByteArray):Bool:=decide (0<(nums s).length)&&decide ((nums s).length≤12)&&decide (97≤(nums s).getD 0 0)&&decide ((nums s).getD 0 0≤122)&& !((nums s).any fun n=> !nb n)
theorem zf2 (s:ByteArray) (h:0<s.size):(nums s).getD 0 0=s[0].toNat:=by
 have hl:0<s.data.toList.length:=by simpa using h
 simp [nums,List.getD,List.getElem?_map,List.getElem?_eq_getElem hl];rfl
theorem below_bytes (w:World) (e:TypeId) (s:ByteArray):Below w.heap.size w (Lib.bytesWorld w e s):=
 ⟨rfl,rfl,rfl,by rw [Lib.bytesWorld_size];omega,fun k hk=>Lib.bytesWorld_at_old w e s k hk⟩
theorem reads_bytes (w:World) (e:TypeId) (s:ByteArray):Reads (Lib.bytesWorld w e s) (w.heap.size+1) 1 (some ⟨w.heap.size,0,none⟩) (nums s).length (bytesV (nums s)):=by
 refine ⟨by simp [bytesV],fun _=>⟨_,rfl,by simp,fun j u hu=> ?_⟩⟩
 have hj:j<s.size:=by
  rw [←nums_length]
  rcases Nat.lt_or_ge j (nums s).length with h|h
  ·exact h
  ·simp [bytesV,List.getElem?_eq_none h] at hu
 have hjl:j<s.data.toList.length:=by simpa using hj
 have e1:((⟨w.heap.size,0,none⟩:Addr).add j)=⟨w.heap.size,j,none⟩:=by
  by_cases h0:j=0
  ·subst h0;rfl
  ·simp [Addr.add,h0]
 rw [e1,Lib.bytesWorld_cell w e s j hj,←hu]
 simp [bytesV,nums,List.getElem?_map,List.getElem?_eq_getElem hjl,List.getD]
def NameIs (b:Bool) (w:World) (e:Ending) (w':World):Prop:=e= .returned (.bool b)∧Below w.heap.size w w'
theorem name_empty (s:ByteArray) (w:World) (h0:s.size=0):Calls Tryz.prog 81 #[.string s] w (NameIs (isName s) w):=by
 have hn:isName s=false:=by unfold isName;rw [nums_length,h0];rfl
 have e0:s.toList=[]:=by rw [Lib.toList_data];exact List.eq_nil_of_length_eq_zero (by simpa using h0)
 rw [hn]
 clear h0 hn
 go_enter Tryz.func81,Tryz.ntmps81
 go_wp2
 go_ret
 exact ⟨rfl,Below.refl _ _⟩
theorem not_empty (s:ByteArray) (h:0<s.size):s.toList.isEmpty=false:=by
 rw [Lib.toList_data]
 cases hl:s.data.toList with
 |nil=>rw [←nums_length] at h;simp [nums,hl] at h
 |cons a l=>rfl
theorem name_long (s:ByteArray) (w:World) (h0:12<s.size) (hs:s.size≤maxLen):Calls Tryz.prog 81 #[.string s] w (NameIs (isName s) w):=by
 unfold maxLen at hs
 have hn:isName s=false:=by unfold isName;rw [nums_length,decide_eq_false (show¬s.size≤12 by omega)];simp
 have e0:=not_empty s (by omega)
 have e1:decide ((s.size:Int)≤12)=false:=by simp;omega
 rw [hn]
 clear h0 hn
 go_enter Tryz.func81,Tryz.ntmps81
 go_wp2
 go_ret
 exact ⟨rfl,Below.refl _ _⟩
set_option maxRecDepth 100000 in
theorem name_first (s:ByteArray) (w:World) (h0:0<s.size) (h12:s.size≤12) (hc:s[0].toNat<97∨122<s[0].toNat):Calls Tryz.prog 81 #[.string s] w (NameIs (isName s) w):=by
 have hn:isName s=false:=by
  unfold isName;rw [zf2 s h0]
  rcases hc with h|h
  ·rw [decide_eq_false (show¬97≤s[0].toNat by omega)];simp
  ·rw [decide_eq_false (show¬s[0].toNat≤122 by omega)];simp
 have e0:=not_empty s h0
 have e1:decide ((s.size:Int)≤12)=true:=by simp;omega
 rw [hn]
 clear hn
 have h1:(0:Int)<s.size:=by omega
 rcases hc with h|h
 ·have e2:decide ((s[0].toNat:Int)≥97)=false:=by simp;omega
  go_enter Tryz.func81,Tryz.ntmps81
  go_wp2
  go_ret
  exact ⟨rfl,Below.refl _ _⟩
 ·have e2:decide ((s[0].toNat:Int)≥97)=true:=by simp;omega
  have e3:decide ((s[0].toNat:Int)≤122)=false:=by simp;omega
  go_enter Tryz.func81,Tryz.ntmps81
  go_wp2
  go_ret
  exact ⟨rfl,Below.refl _ _⟩
set_option maxRecDepth 100000 in
theorem name_rest (s:ByteArray) (w:World) (h0:0<s.size) (h12:s.size≤12) (h1:97≤s[0].toNat) (h2:s[0].toNat≤122):Calls Tryz.prog 81 #[.string s] w (NameIs (isName s) w):=by
 have hn:isName s= !((nums s).any fun n=> !nb n):=by
  unfold isName;rw [zf2 s h0,nums_length,decide_eq_true h0,decide_eq_true h12,decide_eq_true h1,decide_eq_true h2];rfl
 have e0:=not_empty s h0
 have e1:decide ((s.size:Int)≤12)=true:=by simp;omega
 have e2:decide ((s[0].toNat:Int)≥97)=true:=by simp;omega
 have e3:decide ((s[0].toNat:Int)≤122)=true:=by simp;omega
 have kc:=fun W:World=>Lib.run_convert_string_bytes (P:=Tryz.prog) W 9 185 5 s Tryz.underlying9 Tryz.underlying185 Tryz.underlying5
 have HC:=Lib.hid (zfK (some ⟨w.heap.size,0,none⟩) (grownCap w s.size 0 5) (w.heap.size+1) (nums s) (Lib.bytesWorld w 5 s) (reads_bytes _ _ _) (by rw [nums_length];unfold maxLen;omega))
 rw [nums_length] at HC
 rw [hn]
 clear hn
 generalize ((nums s).any fun n=> !nb n)=b at*
 go_enter Tryz.func81,Tryz.ntmps81
 go_wp2_with (go_at_call 130;refine HC.out.mono ?_;rintro e w1 ⟨rfl,rfl⟩)
 go_ret
 exact ⟨rfl,below_bytes _ _ _⟩
theorem name_any (s:ByteArray) (w:World) (hs:s.size≤maxLen):Calls Tryz.prog 81 #[.string s] w (NameIs (isName s) w):=by
 by_cases h0:s.size=0
 ·exact name_empty s w h0
 by_cases h12:12<s.size
 ·exact name_long s w h12 hs
 by_cases hc:97≤s[0].toNat∧s[0].toNat≤122
 ·exact name_rest s w (by omega) (by omega) hc.1 hc.2
 ·exact name_first s w (by omega) (by omega) (by omega)
end Go.Proofs.YthkfhfldoniolaaGreatDoor
namespace Go.Proofs.YthkfhfldoniolaaGreatDoor
open Go.RowKit
def zak (l:List ByteArray):List Value:=l.map Value.string
theorem zcq {w:World} {B:Nat} {A:Option Addr} {l:List ByteArray} {k:Nat} (h:Reads w B 1 A l.length (zak l)) (hk:k<l.length):
 ∃ad,A=some ad∧w.cell? (ad.add k)=some (.string l[k]):=by
 obtain ⟨ad,u,hA,_,hx,hc⟩:=h.at_ hk
 refine ⟨ad,hA, ?_⟩
 rw [hc]
 simp [zak,hk] at hx
 rw [hx]
def idx (l:List ByteArray) (s:ByteArray):Int:=
 match l.findIdx? (fun t=>decide (s=t)) with
 |some i=>(i:Int)
 |none=> -1
def has (l:List ByteArray) (s:ByteArray):Bool:=l.any fun t=>decide (s=t)
theorem zbw {l:List ByteArray} {s:ByteArray}:has l s=true↔s∈l:=by
 unfold has
 rw [List.any_eq_true]
 constructor
 ·rintro ⟨t,ht,he⟩;rw [of_decide_eq_true he];exact ht
 ·intro h;exact ⟨s,h,by simp⟩
theorem idx_hit {l:List ByteArray} {s:ByteArray} {k:Nat} (hk:k<l.length) (h:∀t∈l.take k,s≠t) (he:s=l[k]):idx l s=k:=by
 have:l.findIdx? (fun t=>decide (s=t))=some k:=by
  rw [List.findIdx?_eq_some_iff_getElem]
  refine ⟨hk,by simpa using he,fun j hj=> ?_⟩
  simpa using h l[j] (List.mem_take_iff_getElem.2 ⟨j,by omega,rfl⟩)
 unfold idx;rw [this]
theorem zbV {l:List ByteArray} {s:ByteArray} (h:∀t∈l,s≠t):idx l s= -1:=by
 have:l.findIdx? (fun t=>decide (s=t))=none:=by
  rw [List.findIdx?_eq_none_iff]
  intro t ht
  simpa using h t ht
 unfold idx;rw [this]
theorem zc4 {l:List ByteArray} {s:ByteArray} (h:s∈l):∃k:Nat,k<l.length∧idx l s=k∧l[k]? =some s:=by
 unfold idx
 cases hf:l.findIdx? (fun t=>decide (s=t)) with
 |none=>
  rw [List.findIdx?_eq_none_iff] at hf
  have:=hf s h
  simp at this
 |some i=>
  rw [List.findIdx?_eq_some_iff_getElem] at hf
  obtain ⟨hi,he,_⟩:=hf
  exact ⟨i,hi,rfl,by rw [List.getElem?_eq_getElem hi];rw [of_decide_eq_true he]⟩
theorem zeJ (l:List ByteArray) (s:ByteArray):decide (0≤idx l s)=has l s:=by
 by_cases h:s∈l
 ·obtain ⟨k,_,hi,_⟩:=zc4 h
  rw [hi,zbw.2 h];simp
 ·have hm:∀t∈l,s≠t:=by rintro t ht rfl;exact h ht
  rw [zbV hm,Bool.eq_false_iff.2 (fun h'=>h (zbw.1 h'))];rfl
theorem str_eq (s t:ByteArray):(s.toList==t.toList)=decide (s=t):=by
 rw [Lib.toList_data,Lib.toList_data,Bool.eq_iff_iff,beq_iff_eq,decide_eq_true_iff]
 constructor
 ·intro h
  cases s;cases t
  simp only at h
  congr
  exact Array.toList_inj.1 h
 ·rintro rfl;rfl
theorem zf8 {l:List ByteArray} {s:ByteArray} {k:Nat} (hk:k<l.length) (h:Hid (∀t∈l.take k,s≠t)) (hn:s≠l[k]):Hid (∀t∈l.take (k+1),s≠t):=by
 refine Lib.hid fun t ht=> ?_
 rw [List.take_succ_eq_append_getElem hk,List.mem_append,List.mem_singleton] at ht
 rcases ht with ht|rfl
 ·exact h.out t ht
 ·exact hn
theorem all_miss {l:List ByteArray} {s:ByteArray} {k:Nat} (hk:l.length≤k) (h:Hid (∀t∈l.take k,s≠t)):∀t∈l,s≠t:=by
 have:=h.out
 rwa [List.take_of_length_le hk] at this
def zd7 (l:List ByteArray) (s:ByteArray) (w:World) (e:Ending) (w':World):Prop:=e= .returned (.int .i64 (idx l s))∧w=w'
theorem zfw (A:Option Addr) (c B:Nat) (l:List ByteArray) (s:ByteArray) (w:World) (hr:Reads w B 1 A l.length (zak l)) (hl:l.length≤maxLen):
 Calls Tryz.prog 124 #[.slice A l.length c,.string s] w (zd7 l s w):=by
 unfold maxLen at hl
 go_enter Tryz.func124,Tryz.ntmps124
 go_wp2_with fail
 go_loop [5,8] (fun _ iv=>∃k:Nat,k≤l.length∧iv= .int .i64 (k:Int)∧Hid (∀t∈l.take k,s≠t)) (fun _ iv=>l.length- (intOf iv).toNat)
 case atStart=>exact ⟨0,Nat.zero_le _,rfl,Lib.hid (by simp)⟩
 case round=>
  obtain ⟨k,hk,rfl,ht⟩:=hrel
  by_cases hlt:k<l.length
  ·obtain ⟨ad,rfl,hc⟩:=zcq hr hlt
   have hlt2:(k:Int)<l.length:=by omega
   by_cases he:s=l[k]
   ·have hB:(s.toList==l[k].toList)=true:=by rw [str_eq];simpa using he
    have HE:=Lib.hid he
    clear he
    go_wp2
    go_ret
    exact ⟨by rw [idx_hit hlt ht.out HE.out];rfl,rfl⟩
   ·have hB:(s.toList==l[k].toList)=false:=by rw [str_eq];simpa using he
    have HE:=Lib.hid he
    clear he
    go_wp2
    go_round
    case rel=>exact ⟨k+1,by omega,by go_num,zf8 hlt ht HE.out⟩
    case measure=>simp [intOf];omega
  ·have hge:(l.length:Int)≤k:=by omega
   go_wp2
   go_ret
   exact ⟨by rw [zbV (all_miss (by omega) ht)];rfl,rfl⟩
theorem zef (A:Option Addr) (c B:Nat) (l:List ByteArray) (s:ByteArray) (w:World) (hr:Reads w B 1 A l.length (zak l)) (hl:l.length≤maxLen):
 Calls Tryz.prog 154 #[.slice A l.length c,.string s] w fun e w'=>e= .returned (.bool (has l s))∧w=w':=by
 have H:=Lib.hid (zfw A c B l s w hr hl)
 have HI:=Lib.hid (zeJ l s)
 clear hr hl
 unfold zd7 at H
 generalize idx l s=i at*
 go_enter Tryz.func154,Tryz.ntmps154
 go_wp2_with fail
 refine H.out.mono ?_
 rintro e w1 ⟨rfl,rfl⟩
 go_wp2
 go_ret
 exact ⟨zeI (by rw [←HI.out]),rfl⟩
end Go.Proofs.YthkfhfldoniolaaGreatDoor
namespace Go.Proofs.YthkfhfldoniolaaGreatDoor
open Go.RowKit
def LongIs (b:Bool) (w:World) (e:Ending) (w':World):Prop:=e= .returned (.int .i64 (if b then 1 else 0))∧w=w'
theorem all_succ {α:Type} {l:List α} {k:Nat} {P:α→Prop} (hk:k<l.length) (h:∀t∈l.take k,P t) (hn:P l[k]):∀t∈l.take (k+1),P t:=by
 intro t ht
 rw [List.take_succ_eq_append_getElem hk,List.mem_append,List.mem_singleton] at ht
 rcases ht with ht|rfl
 ·exact h t ht
 ·exact hn
end Go.Proofs.YthkfhfldoniolaaGreatDoor
namespace Go.Proofs.YthkfhfldoniolaaGreatDoor
open Go.RowKit
def OffT (ts:List TypeId) (o:Obj):Prop:=∀cs t fz,o= .cells cs t fz→t∉ts
def zaA (B:Nat) (ts:List TypeId) (w w':World):Prop:=Below B w w'∧∀(g:Nat) (o:Obj),w.heap[g]? =some o→OffT ts o→w'.heap[g]? =some o
section
variable {B:Nat} {ts:List TypeId} {w w1 w':World}
theorem lt_of_heap {g:Nat} {o:Obj} (h:w.heap[g]? =some o):g<w.heap.size:=by
 rcases Nat.lt_or_ge g w.heap.size with hlt|hge
 ·exact hlt
 ·rw [Array.getElem?_eq_none hge] at h;cases h
theorem zaA.refl (B:Nat) (ts:List TypeId) (w:World):zaA B ts w w:=⟨Below.refl _ _,fun _ _ h _=>h⟩
theorem zaA.trans (h:zaA B ts w w1) (h':zaA B ts w1 w'):zaA B ts w w':=⟨h.1.trans h'.1,fun g o hg ho=>h'.2 g o (h.2 g o hg ho) ho⟩
theorem zaA.of_below (h:Below w.heap.size w w') (hB:B≤w.heap.size):zaA B ts w w':=⟨h.mono hB,fun g _ hg _=>(h.block g (lt_of_heap hg)).trans hg⟩
theorem zaA.zaE {row:Option Nat} (h:w.grownBy w' row) (hB:B≤w.heap.size) (hr:∀g,row=some g→B≤g∧∃t cs,t∈ts∧Blk w g t cs):zaA B ts w w':=
 ⟨(Below.refl B w).grown h hB fun g hg=>(hr g hg).1,fun g o hg ho=>(h.block g (lt_of_heap hg) (fun e=>by
   obtain ⟨_,t,cs,ht,hb⟩:=hr g e.symm
   unfold Blk at hb
   rw [hg] at hb
   exact ho _ _ _ (Option.some.inj hb) ht)).trans hg⟩
theorem zaA.setCell (h:zaA B ts w w1) {g i:Nat} {t:TypeId} {cs:Array Value} (hb:Blk w1 g t cs) (ht:t∈ts) (hB:B≤g) (u:Value):zaA B ts w (w1.setCell ⟨g,i,none⟩ u):=
 ⟨h.1.setCell (p:=⟨g,i,none⟩) hB u,fun g' o hg ho=>by
   have h1:=h.2 g' o hg ho
   refine (Below.heap_setCell w1 ⟨g,i,none⟩ u g' ?_).trans h1
   rintro rfl
   unfold Blk at hb
   rw [h1] at hb
   exact ho _ _ _ (Option.some.inj hb) ht⟩
theorem zaA.alloc (h:zaA B ts w w1) (hB:B≤w.heap.size) (o:Obj):zaA B ts w (w1.alloc o):=h.trans (zaA.of_below ((Below.refl _ _).alloc (Nat.le_refl _) o) (Nat.le_trans hB h.1.size))
theorem zaA.drewN (h:zaA B ts w w1) (n:Nat):zaA B ts w (w1.drewN n):=⟨below_drewN h.1 n,h.2⟩
theorem zaA.more {ts':List TypeId} (h:zaA B ts w w1) (hs:∀t∈ts,t∈ts'):zaA B ts' w w1:=⟨h.1,fun g o hg ho=>h.2 g o hg fun cs t fz e ht=>ho cs t fz e (hs t ht)⟩
theorem zaA.blk (h:zaA B ts w w') {g:Nat} {t:TypeId} {cs:Array Value} (hb:Blk w g t cs) (ht:t∉ts):Blk w' g t cs:=h.2 g _ hb fun cs' t' fz e=>by cases e;exact ht
theorem zaA.own (h:zaA B ts w w') {b n size:Nat} {e:TypeId} {v:Value} {xs:List Value} (ho:w.ownsRow b e size v n xs) (ht:e∉ts):w'.ownsRow b e size v n xs:=by
 rcases ho.2 with ⟨rfl,hl⟩|⟨g,cap,cur,rfl,hbase,hh,hrest⟩
 ·exact ⟨ho.1,.inl ⟨rfl,hl⟩⟩
 ·exact ⟨ho.1,.inr ⟨g,cap,cur,rfl,hbase,h.blk hh ht,hrest⟩⟩
end
theorem zaA.of_app {B:Nat} {w w1:World} {e:TypeId} {size n:Nat} {v:Value} {xs:List Value} (ho:w.ownsRow B e size v n xs) (hg:w.grownBy w1 v.ownBlock) (hB:B≤w.heap.size):zaA B [e] w w1:=
 zaA.zaE hg hB fun g hg'=>by
  rcases ho.2 with ⟨rfl,_⟩|⟨g',cap,cur,rfl,hb,hh,_⟩
  ·simp [Value.ownBlock] at hg'
  ·have:g'=g:=by simpa [Value.ownBlock] using hg'
   subst this
   exact ⟨hb,e,cur,by simp,hh⟩
theorem zaA.alloc0 {B:Nat} {w:World} (hB:B≤w.heap.size) (o:Obj):zaA B [] w (w.alloc o):=(zaA.refl B [] w).alloc hB o
end Go.Proofs.YthkfhfldoniolaaGreatDoor
namespace Go.Proofs.YthkfhfldoniolaaGreatDoor
open Go.RowKit Go.Sort
section
variable {w:World} {B g n cap size:Nat} {e:TypeId} {xs ys:List Value}
theorem zeB (h:w.ownsRow B e size (.slice (some ⟨g,0,none⟩) n cap) n xs):xs.length=n*size∧B≤g∧n≤cap∧cap≤maxLen∧∃cur,w.heap[g]? =some (.cells cur e (0,0))∧cur.size=cap*size∧cur.toList.take (n*size)=xs:=by
 rcases h.2 with ⟨h',_⟩|⟨g',cap',cur,h',hb,hh,h1,h2,h3,h4⟩
 ·cases h'
 ·injection h' with ha hn hc
  injection ha with ha
  injection ha with ha
  subst ha;subst hc
  exact ⟨h.1,hb,h1,h2,cur,hh,h3,h4⟩
theorem zf9 (h:w.ownsRow B e size (.slice (some ⟨g,0,none⟩) n cap) n xs):Holds id w g 0 xs.toArray:=by
 obtain ⟨hl,_,_,_,cur,hh,_,ht⟩:=zeB h
 intro j hj
 have hj':j<xs.length:=by simpa using hj
 refine ⟨?_,by simp [World.frozen?,hh]⟩
 rw [Nat.zero_add,h.cellAt j (by omega)]
 simp [hj']
theorem heap_put {w:World} {g n:Nat} {os:Array Obj} {cur:Array Value} {e:TypeId} {fr:Nat×Nat} (d:Array Value) (hb:w.heap[g]? =some (.cells cur e fr)):
 (grow (putRow id (Sort.ahead w n) g 0 d) os).heap[g]? =some (.cells (putCells id 0 d cur) e fr):=by
 have hg:g<w.heap.size:=(Array.getElem?_eq_some_iff.1 hb).1
 rw [heap_grow_old _ _ (by simpa using hg)]
 simp [putRow,mapBlock,Sort.ahead,Array.getElem?_modify,hb,onCells]
theorem zfg {w:World} {g n:Nat} {os:Array Obj} (d:Array Value):w.grownBy (grow (putRow id (Sort.ahead w n) g 0 d) os) (some g):=by
 refine ⟨rfl,rfl,rfl,by simp,fun k hk hne=> ?_⟩
 rw [heap_grow_old _ _ (by simpa using hk)]
 have:g≠k:=fun e=>hne (by rw [e])
 simp [putRow,mapBlock,Sort.ahead,Array.getElem?_modify,this]
theorem take_put (cur:Array Value) (ts:List Value) (h:ts.length≤cur.size):(putCells id 0 ts.toArray cur).toList.take ts.length=ts:=by
 apply List.ext_getElem?
 intro j
 by_cases hj:j<ts.length
 ·rw [List.getElem?_take_of_lt hj,Array.getElem?_toList]
  simp [putCells,hj,show j<cur.size by omega]
 ·rw [List.getElem?_take_eq_none (by omega),List.getElem?_eq_none (by omega)]
theorem own_put (h:w.ownsRow B e size (.slice (some ⟨g,0,none⟩) n cap) n xs) (hl:ys.length=xs.length) (q:Nat) (os:Array Obj):
 (grow (putRow id (Sort.ahead w q) g 0 ys.toArray) os).ownsRow B e size (.slice (some ⟨g,0,none⟩) n cap) n ys∧w.grownBy (grow (putRow id (Sort.ahead w q) g 0 ys.toArray) os) (some g):=by
 obtain ⟨hx,hb,h1,h2,cur,hh,h3,_⟩:=zeB h
 refine ⟨⟨by rw [hl,hx],.inr ⟨g,cap,_,rfl,hb,heap_put _ hh,h1,h2,by simp [putCells,h3], ?_⟩⟩,zfg _⟩
 rw [←hx,←hl]
 exact take_put cur ys (by rw [hl,hx,h3];exact Nat.mul_le_mul_right _ h1)
theorem own_cut {m:Nat} (h:w.ownsRow B e size (.slice (some ⟨g,0,none⟩) n cap) n xs) (hm:m≤n):w.ownsRow B e size (.slice (some ⟨g,0,none⟩) m cap) m (xs.take (m*size)):=by
 obtain ⟨hx,hb,h1,h2,cur,hh,h3,ht⟩:=zeB h
 have hms:=Nat.mul_le_mul_right size hm
 refine ⟨by rw [List.length_take,hx];exact Nat.min_eq_left hms,.inr ⟨g,cap,cur,rfl,hb,hh,by omega,h2,h3, ?_⟩⟩
 rw [←ht,List.take_take,Nat.min_eq_left hms]
end
theorem holds_map {α:Type} [Inhabited α] (enc:α→Value) {w:World} {g:Nat} {d:Array α} (h:Holds id w g 0 (d.map enc)):Holds enc w g 0 d:=by
 intro j hj
 have:=h j (by simpa using hj)
 simpa [hj] using this
theorem zeC {α:Type} [Inhabited α] (enc:α→Value) (w:World) (g:Nat) (d:Array α):putRow enc w g 0 d=putRow id w g 0 (d.map enc):=by
 unfold putRow
 apply mapBlock_congr
 intro c e fr _
 unfold putCells
 apply Array.ext
 ·simp
 ·intro i h1 h2
  simp only [Array.getElem_mapIdx,Array.size_map,Nat.zero_le,true_and,Nat.zero_add,Nat.sub_zero]
  split
  ·rename_i h;simp [h]
  ·rfl
end Go.Proofs.YthkfhfldoniolaaGreatDoor
