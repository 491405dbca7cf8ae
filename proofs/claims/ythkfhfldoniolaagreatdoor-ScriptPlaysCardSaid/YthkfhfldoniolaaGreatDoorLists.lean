/-
  Errors by numbers: what an error value is, and the first fault of a list of hosts. Lists of texts in memory of the call's own. Lists of 64-bit numbers in memory. The walks of OwnKeys and OwnTexts: a list in memory of its own. Lists of numbers in memory ([]int); how often each number is there.
-/
import Derived.Test.YthkfhfldoniolaaGreatDoorTexts
import Derived.Test.YthkfhfldoniolaaGreatDoorLaidA
import Derived.Test.YthkfhfldoniolaaGreatDoorBaseA
import Derived.Deep.Onto
namespace Go.Proofs.YthkfhfldoniolaaGreatDoor
open Go.RowKit
def gv:Nat→Nat
 |1=>1
 |2=>0
 |3=>3
 |4=>4
 |5=>2
 |6=>5
 |7=>6
 |8=>7
 |_=>8
structure Flt where
 code:Nat
 place:Option Nat
def zd9 (ea:Nat→Addr) (w:World) (f:Flt) (t:TypeId) (a:Addr):Prop:=
 match f.place with
 |none=>t=355∧a=ea (gv f.code)
 |some i=>t=121∧∃b,a=⟨b,0,none⟩∧Blk w b 125 #[.int .i64 (i:Int),.iface 355 (.pointer (some (ea (gv f.code))))]
def zfa (ea:Nat→Addr) (f:Flt) (w:World) (e:Ending) (w':World):Prop:=∃t a,e= .returned (.iface t (.pointer (some a)))∧zd9 ea w' f t a∧Below w.heap.size w w'
def zbc (l:List ByteArray):Nat→Nat→Option Flt
 |0,_=>none
 |f+1,i=>match l[i]? with
  |none=>none
  |some s=>if isName s=false then some ⟨4,some i⟩ else if has (l.take i) s=true then some ⟨6,some i⟩ else zbc l f (i+1)
def zaf (l:List ByteArray):Option Flt:=if 12<l.length then some ⟨2,none⟩ else zbc l l.length 0
theorem faultGo_step {l:List ByteArray} {k:Nat} (hk:k<l.length) (h1:isName l[k]=true) (h2:has (l.take k) l[k]=false):zbc l (l.length-k) k=zbc l (l.length- (k+1)) (k+1):=by
 obtain ⟨m,hm⟩:∃m,l.length-k=m+1:=⟨l.length-k-1,by omega⟩
 rw [hm,zbc,List.getElem?_eq_getElem hk]
 simp only [h1,h2,Bool.true_eq_false,Bool.false_eq_true,if_false]
 rw [show l.length- (k+1)=m from by omega]
theorem faultGo_name {l:List ByteArray} {k:Nat} (hk:k<l.length) (h1:isName l[k]=false):zbc l (l.length-k) k=some ⟨4,some k⟩:=by
 obtain ⟨m,hm⟩:∃m,l.length-k=m+1:=⟨l.length-k-1,by omega⟩
 rw [hm,zbc,List.getElem?_eq_getElem hk]
 simp only [h1,if_true]
theorem zfE {l:List ByteArray} {k:Nat} (hk:k<l.length) (h1:isName l[k]=true) (h2:has (l.take k) l[k]=true):zbc l (l.length-k) k=some ⟨6,some k⟩:=by
 obtain ⟨m,hm⟩:∃m,l.length-k=m+1:=⟨l.length-k-1,by omega⟩
 rw [hm,zbc,List.getElem?_eq_getElem hk]
 simp only [h1,h2,Bool.true_eq_false,if_false,if_true]
theorem faultGo_end {l:List ByteArray} {k:Nat} (hk:l.length≤k):zbc l (l.length-k) k=none:=by rw [Nat.sub_eq_zero_of_le hk];rfl
end Go.Proofs.YthkfhfldoniolaaGreatDoor
namespace Go.Proofs.YthkfhfldoniolaaGreatDoor
open Go.RowKit
theorem zb8:(Tryz.prog.info? 9).map (fun i=>(i.zero,i.size,i.bytes))=some (some (.string ⟨#[]⟩),1,16):=by kernel_rfl
def zaL (l:List ByteArray) (w:World) (e:Ending) (w':World):Prop:=∃A cap,e= .returned (.slice A l.length cap)∧w'.ownsRow w.heap.size 9 1 (.slice A l.length cap) l.length (zak l)∧Below w.heap.size w w'
theorem zdp {l:List ByteArray} {w w':World} {v:Value} (h:w'.ownsRow w.heap.size 9 1 v l.length (zak l)) (hb:Below w.heap.size w w'):zaL l w (.returned v) w':=by
 obtain ⟨A,cap,rfl,_⟩:=zai h
 exact ⟨A,cap,rfl,h,hb⟩
theorem faultGo_none {l:List ByteArray}:∀(n k:Nat),l.length-k=n→(zbc l n k=none↔∀(i:Nat) (h:i<l.length),k≤i→isName l[i]=true∧has (l.take i) l[i]=false)
 |0,k,hn=>by
   constructor
   ·intro _ i hi hk;omega
   ·intro _;rfl
 |n+1,k,hn=>by
   have hk:k<l.length:=by omega
   have ih:=faultGo_none (l:=l) n (k+1) (by omega)
   rw [zbc,List.getElem?_eq_getElem hk]
   dsimp only
   cases h1:isName l[k] with
   |false=>
    rw [if_pos rfl]
    constructor
    ·intro h;cases h
    ·intro h;have:=(h k hk (Nat.le_refl _)).1;rw [h1] at this;cases this
   |true=>
    rw [if_neg (by decide)]
    cases h2:has (l.take k) l[k] with
    |true=>
     rw [if_pos rfl]
     constructor
     ·intro h;cases h
     ·intro h;have:=(h k hk (Nat.le_refl _)).2;rw [h2] at this;cases this
    |false=>
     rw [if_neg (by decide),ih]
     constructor
     ·intro h i hi hki
      rcases Nat.lt_or_eq_of_le hki with hlt|rfl
      ·exact h i hi hlt
      ·exact ⟨h1,h2⟩
     ·intro h i hi hki
      exact h i hi (by omega)
theorem zal {l:List ByteArray}:zaf l=none↔l.length≤12∧(∀s∈l,isName s=true)∧l.Nodup:=by
 unfold zaf
 by_cases h12:12<l.length
 ·rw [if_pos h12]
  constructor
  ·intro h;cases h
  ·intro h;omega
 rw [if_neg h12,faultGo_none (l:=l) l.length 0 (by omega)]
 constructor
 ·intro h
  refine ⟨by omega,fun s hs=> ?_, ?_⟩
  ·obtain ⟨i,hi,rfl⟩:=List.mem_iff_getElem.1 hs
   exact (h i hi (Nat.zero_le _)).1
  ·rw [List.Nodup,List.pairwise_iff_getElem]
   intro i j hi hj hij e
   have:=(h j hj (Nat.zero_le _)).2
   rw [←Bool.not_eq_true,zbw] at this
   exact this (List.mem_iff_getElem.2 ⟨i,by rw [List.length_take];omega,by rw [List.getElem_take];exact e⟩)
 ·rintro ⟨_,h1,h2⟩ i hi _
  refine ⟨h1 _ (List.getElem_mem hi), ?_⟩
  rw [←Bool.not_eq_true,zbw]
  intro hm
  obtain ⟨j,hj,hje⟩:=List.mem_iff_getElem.1 hm
  rw [List.length_take] at hj
  rw [List.getElem_take] at hje
  exact List.pairwise_iff_getElem.1 h2 j i (by omega) hi (by omega) hje
end Go.Proofs.YthkfhfldoniolaaGreatDoor
namespace Go.Proofs.YthkfhfldoniolaaGreatDoor
open Go.RowKit
def keysV (l:List Nat):List Value:=l.map fun n:Nat=>Value.int .u64 (n:Int)
end Go.Proofs.YthkfhfldoniolaaGreatDoor
namespace Go.Proofs.YthkfhfldoniolaaGreatDoor
open Go.RowKit
theorem zcn (w:World) (b:Nat) (E:TypeId):w.ownsRow b E 1 (.slice none 0 0) 0 []:=⟨rfl,.inl ⟨rfl,rfl⟩⟩
end Go.Proofs.YthkfhfldoniolaaGreatDoor
namespace Go.Proofs.YthkfhfldoniolaaGreatDoor
open Go.RowKit
def zfX (xs:List Nat):List Value:=xs.map fun n:Nat=>Value.int .i64 (n:Int)
theorem info_num:(Tryz.prog.info? 3).map (fun i=>(i.zero,i.size,i.bytes))=some (some (.int .i64 0),1,8):=by kernel_rfl
theorem below_drew {B:Nat} {a w:World} (h:Below B a w):Below B a w.drew:=⟨h.os,h.tape,h.output,h.size,h.block⟩
def NumAt (ad:Addr) (k x:Nat) (w:World):Prop:=∀W,Below w.heap.size w W→W.cell? (ad.add k)=some (.int .i64 (x:Int))
theorem numAt_of {w:World} {A:Option Addr} {l:List Nat} {k:Nat} (h:Reads w w.heap.size 1 A l.length (zfX l)) (hk:k<l.length):∃ad,A=some ad∧NumAt ad k l[k] w:=by
 obtain ⟨ad,u,hA,hb,hx,hc⟩:=h.at_ hk
 refine ⟨ad,hA,fun W hW=> ?_⟩
 rw [hW.cell (by rw [zaN];exact hb),hc]
 simp [zfX,hk] at hx
 rw [hx]
def StrAt (ad:Addr) (k:Nat) (x:ByteArray) (w:World):Prop:=∀W,Below w.heap.size w W→W.cell? (ad.add k)=some (.string x)
theorem zdh {w:World} {A:Option Addr} {l:List ByteArray} {k:Nat} (h:Reads w w.heap.size 1 A l.length (zak l)) (hk:k<l.length):∃ad,A=some ad∧StrAt ad k l[k] w:=by
 obtain ⟨ad,u,hA,hb,hx,hc⟩:=h.at_ hk
 refine ⟨ad,hA,fun W hW=> ?_⟩
 rw [hW.cell (by rw [zaN];exact hb),hc]
 simp [zak,hk] at hx
 rw [hx]
def countsL (n:Nat) (xs:List Nat):List Nat:=(List.range n).map fun j=>xs.count j
theorem countsL_made (n:Nat):madeCells (Value.int .i64 0).cells (n*1)=(zfX (countsL n [])).toArray:=by
 apply Array.ext
 ·simp [madeCells,zfX,countsL]
 ·intro i h1 h2
  simp [madeCells,zfX,countsL,Value.cells,Nat.mod_one]
theorem make_counts (n:Nat) (hn:n≤1000) (W:World):
 (Instr.makeSlice 29 (.int .i64 (n:Int)) (.int .i64 (n:Int))).run Tryz.prog W= .ok (.slice (some ⟨W.heap.size,0,none⟩) n n) (W.alloc (.cells (zfX (countsL n [])).toArray 3)):=by
 obtain ⟨i0,hi,hz0,hz1,hz2⟩:=info_parts info_num
 have h:=run_make_rowN (P:=Tryz.prog) 29 3 i0 (.int .i64 0) Tryz.underlying29 hi hz0 .i64 .i64 n n (Nat.le_refl _) (by rw [hz2];omega) (by omega) W
 rw [hz1,countsL_made] at h
 exact h
structure RingIn (w:World) (A:Option Addr) (c:Nat) (l:List ByteArray) (A3:Option Addr) (keys:List Nat):Prop where
 r:Reads w w.heap.size 1 A l.length (zak l)
 lc:l.length≤c
 cm:c≤maxLen
 s:∀s∈l,s.size≤maxLen
 k:Reads w w.heap.size 1 A3 keys.length (keysV keys)
 km:keys.length≤maxLen
 u:∀k∈keys,U64 k
theorem zfO {w:World} {b size n cap:Nat} {A:Option Addr} {e:TypeId} {xs:List Value} (h:w.ownsRow b e size (.slice A n cap) n xs):n≤cap:=by
 rcases h.2 with ⟨_,h0⟩|⟨g',cap',cur,he,_,_,hnc,_⟩
 ·omega
 ·injection he with _ _ hcap;omega
theorem str_one {l:List ByteArray}:∀u∈zak l,u.oneCell'=true:=by
 intro u hu
 obtain ⟨x,_,rfl⟩:=List.mem_map.1 hu
 rfl
theorem Reads.take2 {w:World} {B n k size:Nat} {A:Option Addr} {xs:List Value} (h:Reads w B size A n xs) (hk:k≤n):Reads w B size A k (xs.take (k*size)):=by
 refine ⟨by rw [List.length_take,h.1];exact Nat.min_eq_left (Nat.mul_le_mul_right _ hk),fun h0=> ?_⟩
 obtain ⟨ad,e,hb,hc⟩:=h.2 (by omega)
 refine ⟨ad,e,hb,fun j u hu=>hc j u ?_⟩
 rw [List.getElem?_take] at hu
 split at hu
 ·exact hu
 ·cases hu
end Go.Proofs.YthkfhfldoniolaaGreatDoor
