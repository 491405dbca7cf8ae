/-
  The walks of cmp.Compare, cmp.Or, and the order of a ring's points. A ring's points are sorted: the closure, and slices.SortFunc. The walk of ring.New. The walks that read a ring: first, Host, Next. The walks that read a ring: Host, Next. ring.New where it is refused; the closed fact ringed.
-/
import Derived.Test.YthkfhfldoniolaaGreatDoorMixes
import Derived.Test.YthkfhfldoniolaaGreatDoorTexts
import Derived.Test.YthkfhfldoniolaaGreatDoorFlowPlain
import Derived.Deep.RegionHeld3
import Derived.Shelf.SlSortCmp.WholeK
import Derived.Test.YthkfhfldoniolaaGreatDoorShelf
import Derived.Test.YthkfhfldoniolaaGreatDoorCodeA
import Derived.Deep.RegionLaw
import Derived.Test.YthkfhfldoniolaaGreatDoorLists
import Derived.Test.YthkfhfldoniolaaGreatDoorRefFault
set_option maxHeartbeats 4000000
namespace Go.Proofs.YthkfhfldoniolaaGreatDoor
open Go.RowKit Go.Sort
def cmpS (a b:ByteArray):Int:=if ltB a b=true then -1 else if ltB b a=true then 1 else 0
def cfP (x y:Pt):Int:=if cmpN x.at_ y.at_=0 then cmpS x.host y.host else cmpN x.at_ y.at_
theorem isNaN_str (a:ByteArray) (w:World):Calls Tryz.prog 180 #[.string a] w fun e w'=>e= .returned (.bool false)∧w=w':=by
 go_enter Tryz.func180,Tryz.ntmps180
 go_wp2
 go_ret
 exact ⟨rfl,rfl⟩
theorem ltB_gt (a b:ByteArray):(!(Op.bytesLess a.toList b.toList||a.toList==b.toList))=ltB b a:=by
 show (!(ltB a b||a.toList==b.toList))=ltB b a
 rw [str_eq]
 cases h1:ltB a b with
 |true=>rw [ltB_asymm h1];rfl
 |false=>
  by_cases he:a=b
  ·subst he;rw [zeM];simp
  ·rw [decide_eq_false he]
   cases h2:ltB b a with
   |true=>rfl
   |false=>exact absurd (ltB_tri h1 h2) he
theorem cmp_str (a b:ByteArray) (w:World):Calls Tryz.prog 143 #[.string a,.string b] w (IntQ (cmpS a b) w):=by
 unfold IntQ cmpS
 have hg:=ltB_gt a b
 cases h1:ltB a b with
 |true=>
  have t1:Op.bytesLess a.toList b.toList=true:=h1
  rw [if_pos rfl]
  clear hg h1
  go_enter Tryz.func143,Tryz.ntmps143
  go_wp2_with (go_at_call 180;refine (isNaN_str _ _).mono ?_;rintro e w1 ⟨rfl,rfl⟩)
  go_ret
  exact ⟨rfl,rfl⟩
 |false=>
  have t1:Op.bytesLess a.toList b.toList=false:=h1
  rw [if_neg (by decide)]
  rw [t1] at hg
  cases h2:ltB b a with
  |true=>
   rw [h2] at hg
   have t2:(a.toList==b.toList)=false:=by simpa using hg
   rw [if_pos rfl]
   clear hg h1 h2
   go_enter Tryz.func143,Tryz.ntmps143
   go_wp2_with (go_at_call 180;refine (isNaN_str _ _).mono ?_;rintro e w1 ⟨rfl,rfl⟩)
   go_ret
   exact ⟨rfl,rfl⟩
  |false=>
   rw [h2] at hg
   have t2:(a.toList==b.toList)=true:=by simpa using hg
   rw [if_neg (by decide)]
   clear hg h1 h2
   go_enter Tryz.func143,Tryz.ntmps143
   go_wp2_with (go_at_call 180;refine (isNaN_str _ _).mono ?_;rintro e w1 ⟨rfl,rfl⟩)
   go_ret
   exact ⟨rfl,rfl⟩
def orI (x y:Int):Int:=if x=0 then y else x
theorem or_two (g:Nat) (x y:Int) (w:World) (h0:w.cell? ⟨g,0,none⟩=some (.int .i64 x)) (h1:w.cell? ⟨g,1,none⟩=some (.int .i64 y)):
 Calls Tryz.prog 141 #[.slice (some ⟨g,0,none⟩) 2 2] w (IntQ (orI x y) w):=by
 go_enter Tryz.func141,Tryz.ntmps141
 go_wp2_with fail
 go_loop [2,5,8] (fun rv _ iv=>∃k:Nat,k≤2∧rv= .int .i64 0∧iv= .int .i64 (k:Int)∧(0<k→Hid (x=0))∧(1<k→Hid (y=0))) (fun _ _ iv=>2- (intOf iv).toNat)
 case atStart=>exact ⟨0,by omega,rfl,rfl,fun h=>absurd h (by omega),fun h=>absurd h (by omega)⟩
 case round=>
  obtain ⟨k,hk,rfl,rfl,hx,hy⟩:=hrel
  match k,hk,hx,hy with
  |0,_,hx,hy=>
   clear hx hy
   by_cases hx0:x=0
   ·have t1:(x !=0)=false:=by simpa using hx0
    have HX:=Lib.hid hx0
    clear hx0
    go_wp2
    go_round
    case rel=>exact ⟨1,by omega,rfl,rfl,fun _=>HX,fun h=>absurd h (by omega)⟩
    case measure=>simp [intOf]
   ·have t1:(x !=0)=true:=by simpa using hx0
    have HX:Hid (orI x y=x):=Lib.hid (by unfold orI;rw [if_neg hx0])
    clear hx0
    go_wp2
    go_ret
    exact ⟨by rw [HX.out];rfl,rfl⟩
  |1,_,hx,hy=>
   have HX:Hid (orI x y=y):=Lib.hid (by unfold orI;rw [if_pos (hx (by omega)).out])
   have hx':=hx (by omega)
   clear hx hy
   by_cases hy0:y=0
   ·have t1:(y !=0)=false:=by simpa using hy0
    have HY:=Lib.hid hy0
    clear hy0
    go_wp2
    go_round
    case rel=>exact ⟨2,by omega,rfl,rfl,fun _=>hx',fun _=>HY⟩
    case measure=>simp [intOf]
   ·have t1:(y !=0)=true:=by simpa using hy0
    clear hy0
    go_wp2
    go_ret
    exact ⟨by rw [HX.out];rfl,rfl⟩
  |2,_,hx,hy=>
   have HX:Hid (orI x y=0):=Lib.hid (by unfold orI;rw [if_pos (hx (by omega)).out];exact (hy (by omega)).out)
   clear hx hy
   go_wp2
   go_ret
   exact ⟨by rw [HX.out];rfl,rfl⟩
end Go.Proofs.YthkfhfldoniolaaGreatDoor
namespace Go.Proofs.YthkfhfldoniolaaGreatDoor
open Go.RowKit Go.Sort Go.Shelf
def zeh (p:Pt):List Value:=[.int .u64 (p.at_:Int),.string p.host]
def GrowPost (v:Int) (W:World) (e:Ending) (w':World):Prop:=e= .returned (.int .i64 v)∧∃q os',w'=grow (W.drewN q) os'
set_option maxRecDepth 100000 in
theorem closure_pt (x y:Pt) (W:World):Calls Tryz.prog 140 #[.agg #[.int .u64 (x.at_:Int),.string x.host],.agg #[.int .u64 (y.at_:Int),.string y.host]] W (GrowPost (cfP x y) W):=by
 have HO:∀(W':World),Hid (Calls Tryz.prog 141 #[.slice (some ⟨W'.heap.size,0,none⟩) 2 2] (W'.alloc (.cells #[.int .i64 (cmpN x.at_ y.at_),.int .i64 (cmpS x.host y.host)] 3)).drew (IntQ (cfP x y) (W'.alloc (.cells #[.int .i64 (cmpN x.at_ y.at_),.int .i64 (cmpS x.host y.host)] 3)).drew)):=fun W'=>by
  have hB:=Blk.new W' 3 #[.int .i64 (cmpN x.at_ y.at_),.int .i64 (cmpS x.host y.host)]
  exact Lib.hid (or_two _ _ _ _ (hB.cell 0) (hB.cell 1))
 have HC:=fun W'=>Lib.hid (cmp_u64 x.at_ y.at_ W')
 have HS:=fun W'=>Lib.hid (cmp_str x.host y.host W')
 generalize cmpN x.at_ y.at_=c1 at*
 generalize cmpS x.host y.host=c2 at*
 generalize cfP x y=c3 at*
 obtain ⟨ax,hx⟩:=x
 obtain ⟨ay,hy⟩:=y
 dsimp only at*
 go_enter Tryz.func140,Tryz.ntmps140
 go_wp2_with fail
 have hb0:Blk ((W.alloc (.cells #[.int .u64 (ax:Int),.string hx] 211)).alloc (.cells #[.int .u64 (ay:Int),.string hy] 211)) W.heap.size 211 #[.int .u64 (ax:Int),.string hx]:=(Blk.new W _ _).alloc _
 have hb1:Blk ((W.alloc (.cells #[.int .u64 (ax:Int),.string hx] 211)).alloc (.cells #[.int .u64 (ay:Int),.string hy] 211)) (W.heap.size+1) 211 #[.int .u64 (ay:Int),.string hy]:=by
  have:=Blk.new (W.alloc (.cells #[.int .u64 (ax:Int),.string hx] 211)) 211 #[.int .u64 (ay:Int),.string hy]
  simpa using this
 have HG:Hid (∃os,(W.alloc (.cells #[.int .u64 (ax:Int),.string hx] 211)).alloc (.cells #[.int .u64 (ay:Int),.string hy] 211)=grow W os):=Lib.hid ⟨_,by rw [alloc_eq_grow,alloc_eq_grow,grow_grow]⟩
 generalize (W.alloc (.cells #[.int .u64 (ax:Int),.string hx] 211)).alloc (.cells #[.int .u64 (ay:Int),.string hy] 211)=W0 at*
 have k0:W0.cell? ⟨W.heap.size,0,none⟩=some (.int .u64 (ax:Int)):=hb0.cell 0
 have k1:W0.cell? ⟨W.heap.size,1,none⟩=some (.string hx):=hb0.cell 1
 have k2:W0.cell? ⟨W.heap.size+1,0,none⟩=some (.int .u64 (ay:Int)):=hb1.cell 0
 have k3:W0.cell? ⟨W.heap.size+1,1,none⟩=some (.string hy):=hb1.cell 1
 clear hb0 hb1
 go_region_held3 (fun w'=>w'.cell? ⟨W.heap.size,0,none⟩=some (.int .u64 (ax:Int))∧w'.cell? ⟨W.heap.size,1,none⟩=some (.string hx)∧w'.cell? ⟨W.heap.size+1,0,none⟩=some (.int .u64 (ay:Int))∧w'.cell? ⟨W.heap.size+1,1,none⟩=some (.string hy)) (first|exact ⟨k0,k1,k2,k3⟩|go_keep)
  (first
    |(go_at_call 142;refine (HC _).out.mono ?_;rintro e w1 ⟨rfl,rfl⟩)
    |(go_at_call 143;refine (HS _).out.mono ?_;rintro e w1 ⟨rfl,rfl⟩)
    |(go_at_call 141;go_must (refine (HO _).out.mono ?_);rintro e w1 ⟨rfl,rfl⟩))
 go_wp2
 go_ret
 obtain ⟨os,hos⟩:=HG.out
 exact ⟨rfl,1,_,by rw [hos,alloc_eq_grow,grow_grow];rfl⟩
theorem lt_cf (x y:Pt):ltOf cfP x y=ltP x y:=by
 unfold ltOf cfP cmpN cmpS ltP
 by_cases h1:x.at_<y.at_
 ·simp [h1]
 ·by_cases h2:y.at_<x.at_
  ·have:¬x.at_=y.at_:=by omega
   simp [h1,h2,this]
  ·have e:x.at_=y.at_:=by omega
   cases h3:ltB x.host y.host with
   |true=>simp [e]
   |false=>
    cases h4:ltB y.host x.host<;>simp [e]
theorem swo_pt:SWO (ltOf cfP) where
 irrefl x:=by rw [lt_cf];exact ltP_irrefl x
 trans x y z h1 h2:=by rw [lt_cf] at*;exact zfD h1 h2
 ntrans x y z h1 h2:=by rw [lt_cf] at*;exact ltP_ntrans h1 h2
def zcg (l:List Pt):List Value:=l.flatMap zeh
theorem zca:∀l:List Pt,(zcg l).length=l.length*2
 |[]=>rfl
 |p::l=>by
   have:(zcg (p::l)).length=(zcg l).length+2:=by simp [zcg,zeh]
   rw [this,zca l,List.length_cons];omega
theorem zdG:∀(l:List Pt) (j:Nat),(zcg l)[j]? =(l[j/2]?).bind fun p=>(zeh p)[j%2]?
 |[],j=>by simp [zcg]
 |p::l,0=>rfl
 |p::l,1=>rfl
 |p::l,j+2=>by
   have e:(zcg (p::l))[j+2]? =(zcg l)[j]? :=rfl
   rw [e,zdG l j,show (j+2)/2=j/2+1 by omega,show (j+2)%2=j%2 by omega]
   rfl
theorem flatK_pt (l:List Pt):flatK zeh 2 l.toArray=(zcg l).toArray:=by
 apply Array.ext
 ·simp [zca]
 ·intro i h1 h2
  have hi:i<l.length*2:=by simpa using h1
  have hd:i/2<l.length:=by omega
  have hg:=zdG l i
  rw [List.getElem?_eq_getElem hd] at hg
  have hm:i%2<(zeh l[i/2]).length:=by simp [zeh];omega
  simp only [Option.bind_some,List.getElem?_eq_getElem hm] at hg
  have h3:i<(zcg l).length:=by rw [zca];exact hi
  rw [List.getElem?_eq_getElem h3] at hg
  have hg':=Option.some.inj hg
  simp only [flatK,Array.getElem_map,Array.getElem_range,List.getElem_toArray]
  rw [hg']
  have e1:l.toArray[i/2]! =l[i/2]:=by simp [hd]
  rw [e1,getElem!_pos (zeh l[i/2]) (i%2) hm]
theorem flatK_arr (d:Array Pt):flatK zeh 2 d=(zcg d.toList).toArray:=by
 have:=flatK_pt d.toList
 simpa using this
def SortPost (B g n cap:Nat) (pts:List Pt) (w:World) (e:Ending) (w':World):Prop:=
 e= .returned (.tuple #[])∧∃s,IsSort pts s∧w'.ownsRow B 211 2 (.slice (some ⟨g,0,none⟩) n cap) n (zcg s)∧w.grownBy w' (some g)
theorem sort_points {B g n cap:Nat} {pts:List Pt} (w:World) (ho:w.ownsRow B 211 2 (.slice (some ⟨g,0,none⟩) n cap) n (zcg pts)) (hn:n<4611686018427387904):
 Calls Tryz.prog 139 #[.slice (some ⟨g,0,none⟩) n cap,.func (.func 140) #[] #[]] w (SortPost B g n cap pts w):=by
 have hl:pts.length=n:=by have:=ho.1;rw [zca] at this;omega
 subst hl
 have eg:∀args w,(callFunc 140 args).run Tryz.prog w= .ok (.enter 140 args) w:=enters_of Tryz.func140 (by kernel_rfl) rfl
 have hcmp:CmpLays Tryz.prog 140 #[] zeh 2 cfP g 0 pts.toArray.size w:=fun _ _ _ _ x y=>closure_pt x y _
 have hH:HoldsK zeh 2 w g 0 pts.toArray:=by
  unfold HoldsK
  rw [flatK_pt]
  exact zf9 ho
 have hcon:=AnyQ.slices_SortFunc Tryz.sortPoint 2 Tryz.isAgg211 Tryz.sizeOf211 zeh (fun _=>rfl) (fun x v hv=>by simp [zeh] at hv;rcases hv with rfl|rfl<;>rfl) cfP swo_pt 140 #[] g 0 cap pts.toArray w eg hcmp hH (ho.lt g rfl).2 (by simpa using hn)
 change Calls Tryz.prog 139 _ _ _ at hcon
 refine (by simpa using hcon:Calls Tryz.prog 139 #[.slice (some ⟨g,0,none⟩) pts.length cap,.func (.func 140) #[] #[]] w _).mono ?_
 rintro e w' ⟨rfl,d',hp,hs,n,os,rfl⟩
 have hsz:d'.size=pts.length:=by simpa using hp.1
 have hperm:d'.toList.Perm pts:=by
  have:=hp.2.2
  simp at this
  rwa [List.take_of_length_le (by simp [hsz])] at this
 have hsort:d'.toList.Pairwise fun a b=>ltP b a=false:=by
  rw [List.pairwise_iff_getElem]
  intro i j hi hj hij
  have:=hs i j (Nat.zero_le _) hij (by simpa [hsz] using hj)
  rw [lt_cf] at this
  simp only [Array.length_toList] at hi hj
  rw [getElem!_pos d' j hj,getElem!_pos d' i hi] at this
  simpa using this
 refine ⟨rfl,d'.toList,⟨hperm,hsort⟩, ?_⟩
 have:=own_put (ys:=zcg d'.toList) ho (by rw [zca,zca,hperm.length_eq]) n os
 unfold sortWorldK putRowK
 rw [flatK_arr]
 exact this
end Go.Proofs.YthkfhfldoniolaaGreatDoor
namespace Go.Proofs.YthkfhfldoniolaaGreatDoor
open Go.RowKit Go.Sort
theorem info_point:(Tryz.prog.info? 211).map (fun i=>(i.zero,i.size,i.bytes))=some (some (.agg #[.int .u64 0,.string ⟨#[]⟩]),2,24):=by kernel_rfl
structure RingR (w:World) (B rp:Nat) (s:List Pt) (sv:Value):Prop where
 blk:Blk w rp 209 #[sv]
 own:w.ownsRow B 211 2 sv s.length (zcg s)
 base:B≤rp
theorem zfH {a w:World} {row:Option Nat} (h:a.drew.grownBy w row):a.grownBy w row:=⟨h.os,h.tape,h.output,h.size,h.block⟩
theorem RingR.push {w w1:World} {B rp n:Nat} {s:List Pt} {sv v:Value} {p:Pt} {o:Obj} (h:RingR w B rp s sv) (hB:B≤w.heap.size) (hg:(w.alloc o).drew.grownBy w1 sv.ownBlock) (hn:Hid (s.length=n))
 (ho:w1.ownsRow B 211 2 v (n+1) (zcg s++zeh p)):
 Hid (RingR (w1.setCell ⟨rp,0,none⟩ v) B rp (s++[p]) v∧zaA B [209,211] w (w1.setCell ⟨rp,0,none⟩ v))∧w1.cell? ⟨rp,0,none⟩=some sv∧w1.frozen? ⟨rp,0,none⟩=false:=by
 have hg2:=zfH hg
 have k1:zaA B [211] w w1:=((zaA.alloc0 hB o).more (by simp)).trans (zaA.of_app (h.own.alloc o) hg2 (by simp;omega))
 have hb3:=k1.blk h.blk (by decide)
 have k2:zaA B [209] w1 (w1.setCell ⟨rp,0,none⟩ v):=(zaA.refl _ _ _).setCell hb3 (by simp) h.base v
 have e:zcg (s++[p])=zcg s++zeh p:=by simp [zcg]
 refine ⟨Lib.hid ⟨⟨hb3.zbk 0 v, ?_,h.base⟩,(k1.more (by simp)).trans (k2.more (by simp))⟩,hb3.cell 0,hb3.frozen 0⟩
 rw [List.length_append,List.length_singleton,hn.out,e]
 exact k2.own ho (by decide)
def ptOf (x:ByteArray) (c:Nat):Pt:=⟨ofN x (1000+c),x⟩
theorem points_take {l:List ByteArray} {k copies:Nat} (hk:k<l.length):zaQ (l.take (k+1)) copies=zaQ (l.take k) copies++(List.range copies).map (ptOf l[k]):=by
 unfold zaQ
 rw [List.take_succ_eq_append_getElem hk,List.flatMap_append]
 simp [ptOf]
theorem range_snoc (x:ByteArray) (c:Nat):(List.range (c+1)).map (ptOf x)=(List.range c).map (ptOf x)++[ptOf x c]:=by rw [List.range_succ,List.map_append];rfl
def RingPost (l:List ByteArray) (copies:Nat) (w:World) (e:Ending) (w':World):Prop:=
 ∃rp s sv,e= .returned (.tuple #[.pointer (some ⟨rp,0,none⟩),.nilIface])∧RingR w' w.heap.size rp s sv∧IsSort (zaQ l copies) s∧Below w.heap.size w w'
theorem pt_cell (w:World) (x:Int) (y:ByteArray):∀(j:Nat) (u:Value),[Value.int .u64 x,.string y][j]? =some u→(w.alloc (.cells #[.int .u64 x,.string y] 211)).cell? ((⟨w.heap.size,0,none⟩:Addr).add j)=some u:=by
 intro j u hu
 have hB:=Blk.new w 211 #[.int .u64 x,.string y]
 have e:((⟨w.heap.size,0,none⟩:Addr).add j)=⟨w.heap.size,j,none⟩:=by
  by_cases h0:j=0
  ·subst h0;rfl
  ·simp [Addr.add,h0]
 rw [e]
 refine (hB.cell j).trans ?_
 simpa using hu
set_option maxRecDepth 100000 in
theorem ringNew_ok (ea:Nat→Addr) (A:Option Addr) (c B:Nat) (l:List ByteArray) (copies:Nat) (w:World) (hE:zfo ea w) (hr:Reads w B 1 A l.length (zak l)) (hB:B≤w.heap.size) (hlc:l.length≤c) (hl:l.length≤maxLen) (hs:∀s∈l,s.size≤maxLen)
 (hf:zaf l=none) (h0:0<l.length) (h1:1≤copies) (h2:copies≤16):
 Calls Tryz.prog 90 #[.slice A l.length c,.int .i64 (copies:Int)] w (RingPost l copies w):=by
 have hl12:l.length≤12:=by
  rcases Nat.lt_or_ge 12 l.length with h|h
  ·unfold zaf at hf;rw [if_pos h] at hf;cases hf
  ·exact h
 have HC:Hid (Calls Tryz.prog 137 #[.slice A l.length c] w fun e w'=>e= .returned .nilIface∧Below w.heap.size w w'):=Lib.hid ((zdD ea A c B l w hE hr hB hlc hl hs).mono fun e w' h=>by
  unfold zby at h;rw [hf] at h;exact h)
 have z0:((l.length:Int)==0)=false:=beq_eq_false_iff_ne.2 (by omega)
 have b1:decide ((copies:Int)<1)=false:=by simp;omega
 have b2:decide ((copies:Int)>16)=false:=by simp;omega
 obtain ⟨i0,hi0,hz0,hz1,hz2⟩:=info_parts info_point
 clear hE hf hl
 go_enter Tryz.func90,Tryz.ntmps90
 go_wp2_with fail
 refine HC.out.mono ?_
 rintro e w1 ⟨rfl,hb1⟩
 go_wp2_with fail
 go_loopw [31] (fun iv wr=>∃(k:Nat) (sv:Value),k≤l.length∧iv= .int .i64 (k:Int)∧Hid (RingR wr w.heap.size w1.heap.size (zaQ (l.take k) copies) sv)∧Below w.heap.size w wr) (fun iv _=>l.length- (intOf iv).toNat)
 case atStart=>exact ⟨0,.slice none 0 0,Nat.zero_le _,rfl,Lib.hid ⟨Blk.new _ _ _,⟨rfl,.inl ⟨rfl,rfl⟩⟩,hb1.size⟩,hb1.alloc hb1.size _⟩
 case round=>
  obtain ⟨k,sv,hk,rfl,hR,hb⟩:=hrel
  by_cases hlt:k<l.length
  ·have hrr:Reads wr B 1 A l.length (zak l):=hr.keep fun p hp=>hb.cell (by omega)
   obtain ⟨ad,hA,hc⟩:=zcq hrr hlt
   subst hA
   have hlt2:(k:Int)<l.length:=by omega
   have hszk:=hs l[k] (List.getElem_mem hlt)
   have hPT:=Lib.hid (points_take (copies:=copies) hlt)
   have hpl:=zbQ (l.take k) copies
   have hpk:(l.take k).length=k:=by rw [List.length_take];omega
   rw [hpk] at hpl
   have hkc:k*copies≤12*16:=Nat.mul_le_mul (by omega) h2
   have HOf:=Lib.hid (fun (q:Nat) (hq:q<16) W=>of_any l[k] (1000+q) W hszk (by unfold U64;omega))
   have HPL:=Lib.hid hpl
   clear hpl hpk hrr
   generalize zaQ (l.take k) copies=pk at*
   generalize l[k]=x at*
   go_wp2_with fail
   obtain ⟨wo,rfl⟩:∃wo:World,wo=wr:=⟨_,rfl⟩
   go_loopw [36] (fun jv wq=>∃(q:Nat) (sv:Value),q≤copies∧jv= .int .i64 (q:Int)∧Hid (RingR wq w.heap.size w1.heap.size (pk++(List.range q).map (ptOf x)) sv)∧Below w.heap.size w wq) (fun jv _=>copies- (intOf jv).toNat)
   case atStart=>exact ⟨0,sv,Nat.zero_le _,rfl,by simpa using hR,hb⟩
   case round=>
    obtain ⟨q,sv2,hq,rfl,hR2,hb2⟩:=hrel
    by_cases hqt:q<copies
    ·have hqt2:(q:Int)<copies:=by omega
     obtain ⟨N,hN⟩:∃N:Nat,ofN x (1000+q)=N:=⟨_,rfl⟩
     have HOq:Hid (∀W,Calls Tryz.prog 138 #[.string x,.int .u64 (1000+(q:Int))] W (zcD N W)):=Lib.hid fun W=>by
      have:=HOf.out q (by omega) W
      rw [hN,Int.natCast_add] at this
      exact this
     have hw1:IntKind.u64.wrap (1000+(q:Int))=1000+(q:Int):=by
      rw [IntKind.wrap_u64]
      exact Int.emod_eq_of_lt (by omega) (Int.lt_trans (show 1000+(q:Int)<2000 by omega) (by decide))
     have hw0:IntKind.i64.wrap (1000+(q:Int))=1000+(q:Int):=IntWalk.i64_in _ (by omega)
     have hlenq:(pk++(List.range q).map (ptOf x)).length=k*copies+q:=by rw [List.length_append,HPL.out];simp
     have hown:=hR2.out.own
     rw [hlenq] at hown
     have HLQ:=Lib.hid hlenq
     have hEn:Hid (zeh (ptOf x q)=[.int .u64 (N:Int),.string x]):=Lib.hid (by rw [←hN];rfl)
     have c2:wr.cell? ⟨w1.heap.size,0,none⟩=some sv2:=hR2.out.blk.cell 0
     have hml:w1.heap.size<wr.heap.size:=hR2.out.blk.lt
     have hmn:¬w1.heap.size=wr.heap.size:=by omega
     obtain ⟨Av,cv,hsv,_⟩:=zai hown
     subst hsv
     have HW:Hid (((wr.alloc (.cells #[.int .u64 (N:Int),.string x] 211)).drew).ownsRow w.heap.size 211 2 (.slice Av (k*copies+q) cv) (k*copies+q) (zcg (pk++(List.range q).map (ptOf x)))):=Lib.hid (hown.alloc _)
     have HR2:Hid (Reads ((wr.alloc (.cells #[.int .u64 (N:Int),.string x] 211)).drew) (wr.heap.size+1) 2 (some ⟨wr.heap.size,0,none⟩) 1 [.int .u64 (N:Int),.string x]):=Lib.hid ⟨rfl,fun _=>⟨_,rfl,by simp,pt_cell wr N x⟩⟩
     have HBW:Hid (w.heap.size≤((wr.alloc (.cells #[.int .u64 (N:Int),.string x] 211)).drew).heap.size):=Lib.hid (by have:=hb2.size;simp;omega)
     have hM:k*copies+q+1≤1000:=by omega
     clear hN hlenq hown
     generalize hM2:k*copies+q=M at*
     clear hM2
     go_wp2_with fail
     go_region_law (first
      |(refine zbh _ rfl (.tmp 43) (.tmp 51) _ rfl w.heap.size 211 i0 _ 2 24 Tryz.underlying207 hi0 hz0 hz1 hz2 rfl (by omega) (.slice Av M cv) M _ (by simp [Act.eval]) HW.out (wr.heap.size+1) (some ⟨wr.heap.size,0,none⟩) 1 1 _ (by simp [Act.eval]) HR2.out (by simp [Value.oneCell']) (by simp only [maxLen];omega) (by omega) HBW.out ?_
        intro v' w3 hown3 hgrow _
        obtain ⟨HP,cc,cf⟩:=hR2.out.push (p:=ptOf x q) hb2.size hgrow HLQ (by rw [hEn.out];exact hown3)
        obtain ⟨A3,cap3,hv3,_⟩:=zai hown3
        subst hv3)
      |(go_simp;go_at_call 138;refine (HOq.out _).mono ?_;rintro e w' ⟨rfl,rfl⟩))
     all_goals
      go_wp2
      go_roundw
      case rel=>exact ⟨q+1,_,by omega,by go_num,by rw [range_snoc,←List.append_assoc];exact Lib.hid HP.out.1,hb2.trans (HP.out.2.1)⟩
      case measure=>simp [intOf];omega
    ·have hqe:q=copies:=by omega
     subst hqe
     have hge:¬(q:Int)<q:=by omega
     go_wp2
     go_roundw
     case rel=>exact ⟨k+1,sv2,by omega,by go_num,by rw [hPT.out];exact hR2,hb2⟩
     case measure=>simp [intOf];omega
  ·have hke:k=l.length:=by omega
   subst hke
   have hge:¬(l.length:Int)<l.length:=by omega
   have hR':=hR.out
   rw [List.take_length] at hR'
   have hlen:=zbQ l copies
   have hpos:0<(zaQ l copies).length:=by rw [hlen];exact Nat.mul_pos h0 h1
   have hle:l.length*copies≤12*16:=Nat.mul_le_mul hl12 h2
   obtain ⟨g,cap,hsv,_⟩:=hR'.own.form hpos
   subst hsv
   have HS:=Lib.hid (sort_points wr hR'.own (by rw [hlen];omega))
   have c2:wr.cell? ⟨w1.heap.size,0,none⟩=some (.slice (some ⟨g,0,none⟩) (zaQ l copies).length cap):=hR'.blk.cell 0
   have HRR:=Lib.hid hR'
   clear hR' hlen hR hle hpos
   generalize hpts:zaQ l copies=pts at*
   have HP:=Lib.hid hpts
   clear hpts
   go_wp2_with fail
   refine HS.out.mono ?_
   rintro e w2 ⟨rfl,s,hso,hown2,hg2⟩
   have hsl:s.length=pts.length:=hso.1.length_eq
   have hb3:Below w.heap.size w w2:=hb.grown hg2 hb.size fun k' e'=>by cases e';exact (HRR.out.own.lt g rfl).1
   have hblk:Blk w2 w1.heap.size 209 #[.slice (some ⟨g,0,none⟩) pts.length cap]:=HRR.out.blk.grown hg2 (fun e'=>zbe HRR.out.own HRR.out.blk (by decide) e'.symm)
   have HF:Hid (RingR w2 w.heap.size w1.heap.size s (.slice (some ⟨g,0,none⟩) pts.length cap)):=Lib.hid ⟨hblk,by rw [hsl];exact hown2,HRR.out.base⟩
   have HSO:=Lib.hid hso
   clear hblk hso hsl
   go_wp2
   go_ret2
   exact ⟨_,s,_,rfl,HF.out,HP.out▸HSO.out,hb3⟩
end Go.Proofs.YthkfhfldoniolaaGreatDoor
namespace Go.Proofs.YthkfhfldoniolaaGreatDoor
open Go.RowKit Go.Sort
structure RingAt (w:World) (rp g cap:Nat) (s:List Pt):Prop where
 r:w.cell? ⟨rp,0,none⟩=some (.slice (some ⟨g,0,none⟩) s.length cap)
 p:∀(k:Nat) (h:k<s.length),w.cell? ⟨g,k*2,none⟩=some (.int .u64 (s[k].at_:Int))∧w.cell? ⟨g,k*2+1,none⟩=some (.string s[k].host)
 l:s.length≤1000
theorem RingAt.below {w w':World} {rp g cap:Nat} {s:List Pt} (h:RingAt w rp g cap s) (hb:Below w.heap.size w w'):RingAt w' rp g cap s:=by
 have hlt:∀{b i:Nat} {u:Value},w.cell? ⟨b,i,none⟩=some u→b<w.heap.size:=fun {b i u} hc=>by
  rcases Nat.lt_or_ge b w.heap.size with h|h
  ·exact h
  ·simp [World.cell?,Array.getElem?_eq_none h] at hc
 exact ⟨(hb.cell (p:=⟨rp,0,none⟩) (hlt h.r)).trans h.r,fun k hk=>⟨(hb.cell (p:=⟨g,k*2,none⟩) (hlt (h.p k hk).1)).trans (h.p k hk).1,(hb.cell (p:=⟨g,k*2+1,none⟩) (hlt (h.p k hk).2)).trans (h.p k hk).2⟩,h.l⟩
theorem RingR.ringAt {w:World} {B rp:Nat} {s:List Pt} {sv:Value} (h:RingR w B rp s sv) (h0:0<s.length) (hl:s.length≤1000):∃g cap,RingAt w rp g cap s:=by
 obtain ⟨g,cap,hsv,_⟩:=h.own.form h0
 subst hsv
 refine ⟨g,cap,h.blk.cell 0,fun k hk=> ?_,hl⟩
 have e0:(zcg s)[k*2]? =some (.int .u64 (s[k].at_:Int)):=by
  rw [zdG,show k*2/2=k by omega,show k*2%2=0 by omega,List.getElem?_eq_getElem hk];rfl
 have e1:(zcg s)[k*2+1]? =some (.string s[k].host):=by
  rw [zdG,show (k*2+1)/2=k by omega,show (k*2+1)%2=1 by omega,List.getElem?_eq_getElem hk];rfl
 exact ⟨(h.own.cellAt (k*2) (by omega)).trans e0,(h.own.cellAt (k*2+1) (by omega)).trans e1⟩
def BoolQuiet (b:Bool) (w:World) (e:Ending) (w':World):Prop:=e= .returned (.bool b)∧∃m,w'=w.drewN m
theorem first1_any (rp g cap b1 b2 t k:Nat) (s:List Pt) (w:World) (hR:RingAt w rp g cap s) (h1:w.cell? ⟨b1,0,none⟩=some (.pointer (some ⟨rp,0,none⟩))) (h2:w.cell? ⟨b2,0,none⟩=some (.int .u64 (t:Int))) (hk:k<s.length):
 Calls Tryz.prog 182 #[.int .i64 (k:Int),.pointer (some ⟨b1,0,none⟩),.pointer (some ⟨b2,0,none⟩)] w (BoolQuiet (decide (t≤s[k].at_)) w):=by
 have hr:=hR.r
 obtain ⟨p0,_⟩:=hR.p k hk
 have hl:=hR.l
 have hk2:(k:Int)<s.length:=by omega
 clear hR
 generalize s[k]=p at*
 obtain ⟨pa,ph⟩:=p
 dsimp only at*
 go_enter Tryz.func182,Tryz.ntmps182
 go_wp2
 go_quiet (fail)
 go_wp2
 go_ret
 exact ⟨rfl,_,rfl⟩
theorem mid_of (lo hi:Nat) (h:lo<hi):∃mid:Nat,((lo:Int)+hi)/2=mid∧lo≤mid∧mid<hi:=⟨(lo+hi)/2,by omega,by omega,by omega⟩
def SearchPost (t:Nat) (s:List Pt) (w:World) (e:Ending) (w':World):Prop:=∃k:Nat,FirstAt t s k∧e= .returned (.int .i64 (k:Int))∧∃m,w'=w.drewN m
def Lows (t:Nat) (s:List Pt) (lo:Nat):Prop:=∀(j:Nat) (p:Pt),j<lo→s[j]? =some p→p.at_<t
def Highs (t:Nat) (s:List Pt) (hi:Nat):Prop:=∀(j:Nat) (p:Pt),hi≤j→s[j]? =some p→t≤p.at_
theorem sorted_le {s:List Pt} (h:s.Pairwise fun a b=>ltP b a=false) {i j:Nat} (hij:i≤j) (hj:j<s.length):(s[i]'(by omega)).at_≤s[j].at_:=by
 rcases Nat.lt_or_eq_of_le hij with hlt|rfl
 ·exact ltP_at (List.pairwise_iff_getElem.1 h i j (by omega) hj hlt)
 ·exact Nat.le_refl _
theorem lows_mid {t:Nat} {s:List Pt} (h:s.Pairwise fun a b=>ltP b a=false) {mid:Nat} (hm:mid<s.length) (ht:¬t≤s[mid].at_):Lows t s (mid+1):=fun j p hj hp=>by
 have hjl:=(List.getElem?_eq_some_iff.1 hp).1
 have:=sorted_le h (show j≤mid by omega) hm
 rw [List.getElem?_eq_getElem hjl] at hp
 have:=Option.some.inj hp
 subst this
 omega
theorem highs_mid {t:Nat} {s:List Pt} (h:s.Pairwise fun a b=>ltP b a=false) {mid:Nat} (hm:mid<s.length) (ht:t≤s[mid].at_):Highs t s mid:=fun j p hj hp=>by
 have hjl:=(List.getElem?_eq_some_iff.1 hp).1
 have:=sorted_le h hj hjl
 rw [List.getElem?_eq_getElem hjl] at hp
 have:=Option.some.inj hp
 subst this
 omega
set_option maxRecDepth 100000 in
theorem search_any (rp g cap b1 b2 t:Nat) (s:List Pt) (w:World) (hR:RingAt w rp g cap s) (hsort:s.Pairwise fun a b=>ltP b a=false) (h1:w.cell? ⟨b1,0,none⟩=some (.pointer (some ⟨rp,0,none⟩))) (h2:w.cell? ⟨b2,0,none⟩=some (.int .u64 (t:Int))):
 Calls Tryz.prog 181 #[.int .i64 (s.length:Int),.func (.func 182) #[] #[.pointer (some ⟨b1,0,none⟩),.pointer (some ⟨b2,0,none⟩)]] w (SearchPost t s w):=by
 have HC:∀(k:Nat) (hk:k<s.length) (m:Nat),Hid (Calls Tryz.prog 182 #[.int .i64 (k:Int),.pointer (some ⟨b1,0,none⟩),.pointer (some ⟨b2,0,none⟩)] (w.drewN m) (BoolQuiet (decide (t≤s[k].at_)) (w.drewN m))):=fun k hk m=>
  Lib.hid (first1_any rp g cap b1 b2 t k s (w.drewN m) ⟨hR.r,hR.p,hR.l⟩ h1 h2 hk)
 have hl:=hR.l
 have HSO:=Lib.hid hsort
 have HCC:=Lib.hid HC
 clear hR hsort h1 h2 HC
 go_enter Tryz.func181,Tryz.ntmps181
 go_wp2_with fail
 go_loopw [5,6,7] (fun iv jv _ wr=>∃lo hi m:Nat,lo≤hi∧hi≤s.length∧iv= .int .i64 (lo:Int)∧jv= .int .i64 (hi:Int)∧wr=w.drewN m∧Hid (Lows t s lo)∧Hid (Highs t s hi)) (fun iv jv _ _=>(intOf jv).toNat- (intOf iv).toNat)
 case atStart=>exact ⟨0,s.length,0,Nat.zero_le _,Nat.le_refl _,rfl,rfl,rfl,Lib.hid (fun j p h=>absurd h (by omega)),Lib.hid (fun j p h hp=>absurd (List.getElem?_eq_some_iff.1 hp).1 (by omega))⟩
 case round=>
  obtain ⟨lo,hi,m,hlh,hhl,rfl,rfl,rfl,hlo,hhi⟩:=hrel
  by_cases hlt:lo<hi
  ·obtain ⟨mid,hmid,m1,m2⟩:=mid_of lo hi hlt
   have hlt2:(lo:Int)<hi:=by omega
   have hmB:mid<s.length:=by omega
   have HM:=HCC.out mid hmB m
   by_cases ht:t≤s[mid].at_
   ·rw [decide_eq_true ht] at HM
    have HH:=Lib.hid (highs_mid HSO.out hmB ht)
    clear ht
    go_wp2_with fail
    refine HM.out.mono ?_
    rintro e w1 ⟨rfl,m3,rfl⟩
    go_wp2
    go_roundw
    case rel=>exact ⟨lo,mid,_,m1,by omega,rfl,rfl,rfl,hlo,HH⟩
    case measure=>simp [intOf];omega
   ·rw [decide_eq_false ht] at HM
    have HL:=Lib.hid (lows_mid HSO.out hmB ht)
    clear ht
    go_wp2_with fail
    refine HM.out.mono ?_
    rintro e w1 ⟨rfl,m3,rfl⟩
    go_wp2
    go_roundw
    case rel=>exact ⟨mid+1,hi,_,m2,hhl,by go_num,rfl,rfl,HL,hhi⟩
    case measure=>simp [intOf];omega
  ·have hle:lo=hi:=by omega
   have hlt2:¬(lo:Int)<hi:=by omega
   have HF:Hid (FirstAt t s lo):=Lib.hid ⟨by omega,hlo.out,by rw [hle];exact hhi.out⟩
   clear hle
   go_wp2
   go_ret
   exact ⟨lo,HF.out,rfl,_,rfl⟩
def FirstPost (t:Nat) (s:List Pt) (w:World) (e:Ending) (w':World):Prop:=∃k:Nat,FirstAt t s k∧e= .returned (.int .i64 ((k%s.length:Nat):Int))∧Below w.heap.size w w'
set_option maxRecDepth 100000 in
theorem first_any (rp g cap key:Nat) (s:List Pt) (w:World) (hR:RingAt w rp g cap s) (hsort:s.Pairwise fun a b=>ltP b a=false) (h0:0<s.length) (hk:U64 key):
 Calls Tryz.prog 144 #[.pointer (some ⟨rp,0,none⟩),.int .u64 (key:Int)] w (FirstPost (Mx.turn key) s w):=by
 have HT:=Lib.hid (fun W=>zeU key W hk)
 generalize Mx.turn key=t at*
 have hb:Below w.heap.size w ((w.alloc (.cells #[.pointer (some ⟨rp,0,none⟩)] 151)).alloc (.cells #[.int .u64 (t:Int)] 55)):=((Below.refl _ _).alloc (Nat.le_refl _) _).alloc (by simp) _
 have hR2:=hR.below hb
 have x1:Blk ((w.alloc (.cells #[.pointer (some ⟨rp,0,none⟩)] 151)).alloc (.cells #[.int .u64 (t:Int)] 55)) w.heap.size 151 #[.pointer (some ⟨rp,0,none⟩)]:=(Blk.new w _ _).alloc _
 have x2:Blk ((w.alloc (.cells #[.pointer (some ⟨rp,0,none⟩)] 151)).alloc (.cells #[.int .u64 (t:Int)] 55)) (w.heap.size+1) 55 #[.int .u64 (t:Int)]:=by
  have:=Blk.new (w.alloc (.cells #[.pointer (some ⟨rp,0,none⟩)] 151)) 55 #[.int .u64 (t:Int)]
  simpa using this
 have y1:=x1.cell 0
 have y2:=x2.cell 0
 simp only [List.getElem?_toArray,List.getElem?_cons_zero] at y1 y2
 have hn0:¬(s.length:Int)=0:=by omega
 have hn1:¬s.length=0:=by omega
 have hn2:¬s=[]:=fun e=>by simp [e] at h0
 have hn3:(0:Int)<s.length:=by omega
 have hl:=hR.l
 clear hR hk x1 x2
 go_enter Tryz.func144,Tryz.ntmps144
 go_wp2_with fail
 refine (HT.out _).mono ?_
 rintro e w1 ⟨rfl,rfl⟩
 go_wp2_with fail
 generalize (w.alloc (.cells #[.pointer (some ⟨rp,0,none⟩)] 151)).alloc (.cells #[.int .u64 (t:Int)] 55)=W0 at*
 have HS:Hid (Calls Tryz.prog 181 #[.int .i64 (s.length:Int),.func (.func 182) #[] #[.pointer (some ⟨w.heap.size,0,none⟩),.pointer (some ⟨w.heap.size+1,0,none⟩)]] W0.drew (SearchPost t s W0.drew)):=
  Lib.hid (search_any rp g cap w.heap.size (w.heap.size+1) t s W0.drew ⟨hR2.r,hR2.p,hR2.l⟩ hsort y1 y2)
 have z:=hR2.r
 clear hR2 hsort
 go_region_held3 (fun w'=>w'.cell? ⟨w.heap.size,0,none⟩=some (.pointer (some ⟨rp,0,none⟩))∧w'.cell? ⟨rp,0,none⟩=some (.slice (some ⟨g,0,none⟩) s.length cap)) (first|exact ⟨y1,z⟩|go_keep)
  (first
    |(go_at_call 181;go_must (refine HS.out.mono ?_);rintro e w1 ⟨k,hf,rfl,m,rfl⟩;have HF:=Lib.hid hf;have hk0:(0:Int)≤(k:Int):=by omega))
 go_wp2
 go_ret
 exact ⟨k,HF.out,rfl,below_drewN hb (1+m)⟩
end Go.Proofs.YthkfhfldoniolaaGreatDoor
namespace Go.Proofs.YthkfhfldoniolaaGreatDoor
open Go.RowKit Go.Sort
def HostPost (x:ByteArray) (w:World) (e:Ending) (w':World):Prop:=e= .returned (.string x)∧Below w.heap.size w w'
theorem zep {w w':World} {B:Nat} (h:Below B w.drew w'):Below B w w':=⟨h.os,h.tape,h.output,h.size,h.block⟩
set_option maxRecDepth 100000 in
theorem host_any (rp g cap key:Nat) (s:List Pt) (x:ByteArray) (w:World) (hR:RingAt w rp g cap s) (hsort:s.Pairwise fun a b=>ltP b a=false) (h0:0<s.length) (hk:U64 key) (hx:(around (Mx.turn key) s)[0]? =some x):
 Calls Tryz.prog 91 #[.pointer (some ⟨rp,0,none⟩),.int .u64 (key:Int)] w (HostPost x w):=by
 have HF:Hid (Calls Tryz.prog 144 #[.pointer (some ⟨rp,0,none⟩),.int .u64 (key:Int)] w.drew fun e w'=>∃k:Nat,k<s.length∧w'.cell? ⟨g,k*2+1,none⟩=some (.string x)∧w'.cell? ⟨rp,0,none⟩=some (.slice (some ⟨g,0,none⟩) s.length cap)∧e= .returned (.int .i64 (k:Int))∧Below w.heap.size w w'):=by
  refine Lib.hid ((first_any rp g cap key s w.drew ⟨hR.r,hR.p,hR.l⟩ hsort h0 hk).mono fun e w' ⟨k,hf,he,hb⟩=> ?_)
  have hlt:=Nat.mod_lt k h0
  have ha:=around_at hf (i:=0) h0
  rw [hx] at ha
  have hb':Below w.heap.size w w':=zep hb
  refine ⟨k%s.length,hlt, ?_,(hR.below hb').r,he,hb'⟩
  rw [((hR.below hb').p _ hlt).2]
  simp only [Nat.add_zero,Nat.mod_mod] at ha
  exact congrArg some (congrArg Value.string (Option.some.inj ha).symm)
 have z:=hR.r
 have hl:=hR.l
 clear hR hsort hx hk
 go_enter Tryz.func91,Tryz.ntmps91
 go_wp2_with fail
 go_region_law (go_simp;go_at_call 144;go_must (refine HF.out.mono ?_);rintro e w1 ⟨k,hk,hc,hz,rfl,hb⟩;have hk2:(k:Int)<s.length:=by omega)
 all_goals
  go_wp2
  go_ret
  exact ⟨rfl,by first|exact hb|exact below_drewN hb _⟩
end Go.Proofs.YthkfhfldoniolaaGreatDoor
namespace Go.Proofs.YthkfhfldoniolaaGreatDoor
open Go.RowKit Go.Sort
def zaH (l:List ByteArray) (copies:Int):Option Flt:=if l.length=0 then some ⟨5,none⟩ else match zaf l with
 |some f=>some f
 |none=>if 1≤copies∧copies≤16 then none else some ⟨2,none⟩
structure ErrsR (ea:Nat→Addr) (w:World):Prop where
 e3:zfo ea w
 c5:w.cell? ⟨gv 5,0,none⟩=some (.iface 355 (.pointer (some (ea (gv 5)))))
theorem ErrsR.below {ea:Nat→Addr} {w w':World} (h:ErrsR ea w) (hb:Below w.heap.size w w'):ErrsR ea w':=⟨h.e3.below hb,(hb.cell (p:=⟨gv 5,0,none⟩) (lt_of_cell h.c5)).trans h.c5⟩
def RingBad (ea:Nat→Addr) (f:Flt) (w:World) (e:Ending) (w':World):Prop:=∃t a,e= .returned (.tuple #[.pointer none,.iface t (.pointer (some a))])∧zd9 ea w' f t a∧Below w.heap.size w w'
theorem ringNew_bad (ea:Nat→Addr) (A:Option Addr) (c B:Nat) (l:List ByteArray) (copies:Int) (f:Flt) (w:World) (hE:ErrsR ea w) (hr:Reads w B 1 A l.length (zak l)) (hB:B≤w.heap.size) (hlc:l.length≤c) (hl:l.length≤maxLen) (hs:∀s∈l,s.size≤maxLen)
 (hf:zaH l copies=some f):
 Calls Tryz.prog 90 #[.slice A l.length c,.int .i64 copies] w (RingBad ea f w):=by
 unfold zaH at hf
 by_cases h0:l.length=0
 ·rw [if_pos h0] at hf
  obtain rfl:=Option.some.inj hf
  have z0:((l.length:Int)==0)=true:=beq_iff_eq.2 (by omega)
  have z1:l=[]:=List.eq_nil_of_length_eq_zero h0
  have c5:=hE.c5
  dsimp only [gv] at c5
  subst z1
  clear hf hE h0 hs hr hlc hl
  go_enter Tryz.func90,Tryz.ntmps90
  go_wp2
  go_quiet (fail)
  go_wp2
  go_ret2
  exact ⟨_,_,rfl,⟨rfl,rfl⟩,below_drewN (Below.refl _ _) _⟩
 rw [if_neg h0] at hf
 have z0:((l.length:Int)==0)=false:=beq_eq_false_iff_ne.2 (by omega)
 have z1:¬l=[]:=fun e=>by simp [e] at h0
 have HC:=Lib.hid (zdD ea A c B l w hE.e3 hr hB hlc hl hs)
 have HE:=Lib.hid hE
 unfold zby at HC
 unfold maxLen at hl
 cases ho:zaf l with
 |some f'=>
  rw [ho] at hf HC
  obtain rfl:=Option.some.inj hf
  clear hf ho hE
  go_enter Tryz.func90,Tryz.ntmps90
  go_wp2_with fail
  refine HC.out.mono ?_
  rintro e w1 ⟨t,a,rfl,hI,hb⟩
  go_wp2
  go_ret2
  exact ⟨t,a,rfl,hI,hb⟩
 |none=>
  rw [ho] at hf HC
  have hc:¬(1≤copies∧copies≤16):=fun hc=>by simp only [if_pos hc] at hf;cases hf
  simp only [if_neg hc] at hf
  obtain rfl:=Option.some.inj hf
  have hw:(decide (copies<1)=true)∨(decide (copies<1)=false∧decide (copies>16)=true):=by
   simp only [decide_eq_true_eq,decide_eq_false_iff_not];omega
  clear hf ho hE hc
  rcases hw with a1|⟨a1,a2⟩
  all_goals
   go_enter Tryz.func90,Tryz.ntmps90
   go_wp2_with fail
   refine HC.out.mono ?_
   rintro e w1 ⟨rfl,hb⟩
   have c2:=(HE.out.below hb).e3.c2
   dsimp only [gv] at c2
   go_wp2
   go_quiet (fail)
   go_wp2
   go_ret2
   exact ⟨_,_,rfl,⟨rfl,rfl⟩,below_drewN hb _⟩
theorem zcB {l:List ByteArray} {copies:Int} (h:zaH l copies=none):0<l.length∧zaf l=none∧1≤copies∧copies≤16:=by
 unfold zaH at h
 by_cases h0:l.length=0
 ·rw [if_pos h0] at h;cases h
 rw [if_neg h0] at h
 split at h
 ·cases h
 ·rename_i ho
  split at h
  ·rename_i hc;exact ⟨by omega,ho,hc.1,hc.2⟩
  ·cases h
def RingIs (rp:Nat) (l:List ByteArray) (copies:Nat) (w:World):Prop:=∃g cap s,RingAt w rp g cap s∧IsSort (zaQ l copies) s∧0<s.length
def RingMade (l:List ByteArray) (copies:Nat) (w:World) (e:Ending) (w':World):Prop:=∃rp,e= .returned (.tuple #[.pointer (some ⟨rp,0,none⟩),.nilIface])∧RingIs rp l copies w'∧Below w.heap.size w w'
theorem ringNew_made (ea:Nat→Addr) (A:Option Addr) (c B:Nat) (l:List ByteArray) (copies:Nat) (w:World) (hE:zfo ea w) (hr:Reads w B 1 A l.length (zak l)) (hB:B≤w.heap.size) (hlc:l.length≤c) (hl:l.length≤maxLen) (hs:∀s∈l,s.size≤maxLen)
 (hf:zaH l copies=none):
 Calls Tryz.prog 90 #[.slice A l.length c,.int .i64 (copies:Int)] w (RingMade l copies w):=by
 obtain ⟨h0,ho,h1,h2⟩:=zcB hf
 have h12:=(zal.1 ho).1
 refine (ringNew_ok ea A c B l copies w hE hr hB hlc hl hs ho h0 (by omega) (by omega)).mono fun e w' ⟨rp,s,sv,he,hR,hS,hb⟩=> ?_
 have hlen:s.length=l.length*copies:=by rw [hS.1.length_eq,zbQ]
 have hle:l.length*copies≤12*16:=Nat.mul_le_mul h12 (by omega)
 have hpos:0<s.length:=by rw [hlen];exact Nat.mul_pos h0 (by omega)
 obtain ⟨g,cap,hA⟩:=hR.ringAt hpos (by omega)
 exact ⟨rp,he,⟨g,cap,s,hA,hS,hpos⟩,hb⟩
noncomputable def sortedOf (l:List ByteArray) (copies:Nat):List Pt:=(zaQ l copies).mergeSort fun a b=> !ltP b a
theorem zdT (l:List ByteArray) (copies:Nat):IsSort (zaQ l copies) (sortedOf l copies):=by
 refine ⟨List.mergeSort_perm _ _, ?_⟩
 have:=List.pairwise_mergeSort (le:=fun a b=> !ltP b a) (fun a b c h1 h2=>by
  simp only [Bool.not_eq_true'] at*
  exact ltP_ntrans h2 h1) (fun a b=>by
  cases h:ltP b a with
  |false=>rfl
  |true=>
   have:ltP a b=false:=by
    rw [Bool.eq_false_iff];intro h'
    have:=zfD h h'
    rw [ltP_irrefl] at this;cases this
   simp [this]) (zaQ l copies)
 exact this.imp fun {a b} h=>by simpa using h
noncomputable def zcI (l:List ByteArray) (copies key:Nat):List ByteArray:=around (Mx.turn key) (sortedOf l copies)
theorem ringIs_host {rp copies key:Nat} {l:List ByteArray} {w:World} {x:ByteArray} (h:RingIs rp l copies w) (hk:U64 key) (hx:(zcI l copies key)[0]? =some x):
 Calls Tryz.prog 91 #[.pointer (some ⟨rp,0,none⟩),.int .u64 (key:Int)] w (HostPost x w):=by
 obtain ⟨g,cap,s,a,b,c⟩:=h
 refine host_any rp g cap key s x w a b.2 c hk ?_
 rw [b.unique (zdT l copies)]
 exact hx
theorem mem_hostsOf {l:List ByteArray} {copies key:Nat} {x:ByteArray} (h:x∈l) (hc:1≤copies):x∈zcI l copies key:=by
 obtain ⟨p,hp,hx⟩:=pointsOf_mem h hc
 exact mem_around.2 ⟨p,(zdT l copies).1.mem_iff.2 hp,hx⟩
end Go.Proofs.YthkfhfldoniolaaGreatDoor
