/-
  The reference's SomeFault. The reference's numbers: TurnOf, NumberOf. Sorting by insertion at the first place that fits, in plain words. The reference's SortedOf: texts in order. The reference's TableFault. The reference's tables: RowOf, TableFault, TableOf. The reference's TableOf where hosts and size are right. The walk of the reference's TableOf. What table.Make and the reference's TableOf tell of the same hosts; likewise the rows. table.Moves, whatever it is given.
-/
import Derived.Test.YthkfhfldoniolaaGreatDoorRefFault
import Derived.Test.YthkfhfldoniolaaGreatDoorMixes
import Derived.Sort.Lot0
import Derived.Test.YthkfhfldoniolaaGreatDoorSorted
import Derived.Test.YthkfhfldoniolaaGreatDoorLists
import Derived.Test.YthkfhfldoniolaaGreatDoorTables
import Derived.Deep.LoopGhost
import Derived.Deep.RegionHeld3
set_option maxHeartbeats 4000000
namespace Go.Proofs.YthkfhfldoniolaaGreatDoor
open Go.RowKit
def zaS (l:List ByteArray):Option Flt:=if l.length=0 then some ⟨5,none⟩ else zaf l
set_option maxRecDepth 100000 in
theorem zdS (A:Option Addr) (c B:Nat) (l:List ByteArray) (w:World) (hr:Reads w B 1 A l.length (zak l)) (hB:B≤w.heap.size) (hl:l.length≤maxLen) (hs:∀s∈l,s.size≤maxLen):
 Calls Tryz.prog 32 #[.slice A l.length c] w (zaB (zaS l) w):=by
 have hb0:Below w.heap.size w (w.alloc (.cells #[.int .i64 0,.int .i64 0] 50)):=(Below.refl _ _).alloc (Nat.le_refl _) _
 have HH:=Lib.hid (ze3 A c B l (w.alloc (.cells #[.int .i64 0,.int .i64 0] 50)) (hr.alloc hB _) (by simp;omega) hl hs)
 have HB0:=Lib.hid hb0
 have HN0:=Lib.hid (Blk.new w 50 #[.int .i64 0,.int .i64 0])
 unfold maxLen at hl
 unfold zaB at HH
 by_cases h0:l.length=0
 ·have HF:Hid (zaS l=some ⟨5,none⟩):=Lib.hid (by unfold zaS;rw [if_pos h0])
  have z0:((l.length:Int)==0)=true:=beq_iff_eq.2 (by omega)
  have z1:l=[]:=List.eq_nil_of_length_eq_zero h0
  have HBr:=Lib.hid (zfP 5 (w.alloc (.cells #[.int .i64 0,.int .i64 0] 50)))
  subst z1
  clear hr hB hb0 h0 HH hs
  go_enter Tryz.func32,Tryz.ntmps32
  go_wp2_with fail
  refine HBr.out.mono ?_
  rintro e w1 ⟨rfl,hb1⟩
  have hB1:=HN0.out.below hb1 HN0.out.lt
  have c0:=hB1.cell 0
  have c1:=hB1.cell 1
  have f0:=hB1.frozen 0
  have f1:=hB1.frozen 1
  have hz1:w.heap.size<w1.heap.size:=hB1.lt
  have HB:=Lib.hid (HB0.out.trans (hb1.mono HB0.out.size))
  clear hB1 hb1
  simp at c0 c1
  go_wp2
  refine bodyPost_ret (v:= .agg #[.int .i64 5,.int .i64 (-1)]) (by simp [results,Tryz.results32,go_sem,c0,c1]) rfl (zaw HF.out rfl ?_)
  exact (HB.out.setCell (p:=⟨w.heap.size,0,none⟩) (Nat.le_refl _) _).setCell (p:=⟨w.heap.size,1,none⟩) (Nat.le_refl _) _
 ·have HF:Hid (zaS l=zaf l):=Lib.hid (by unfold zaS;rw [if_neg h0])
  have z0:((l.length:Int)==0)=false:=beq_eq_false_iff_ne.2 (by omega)
  have z1:¬l=[]:=fun e=>by simp [e] at h0
  obtain ⟨fc,hfc⟩:∃fc:Int,(zcv (zaf l):Int)=fc:=⟨_,rfl⟩
  obtain ⟨fa,hfa⟩:∃fa:Int,fAt (zaf l)=fa:=⟨_,rfl⟩
  have HV:Hid (zax (zaf l)= .agg #[.int .i64 fc,.int .i64 fa]):=Lib.hid (by unfold zax;rw [hfc,hfa])
  rw [hfc,hfa] at HH
  clear hr hB hb0 h0 hs hfc hfa
  go_enter Tryz.func32,Tryz.ntmps32
  go_wp2_with fail
  refine HH.out.mono ?_
  rintro e w1 ⟨rfl,hb1⟩
  have hB1:=HN0.out.below hb1 HN0.out.lt
  have c0:=hB1.cell 0
  have c1:=hB1.cell 1
  have f0:=hB1.frozen 0
  have f1:=hB1.frozen 1
  have hz1:w.heap.size<w1.heap.size:=hB1.lt
  have HB:=Lib.hid (HB0.out.trans (hb1.mono HB0.out.size))
  clear hB1 hb1
  simp at c0 c1
  go_wp2
  refine bodyPost_ret (v:= .agg #[.int .i64 fc,.int .i64 fa]) (by simp [results,Tryz.results32,go_sem,c0,c1]) rfl (zaw HF.out (by rw [HV.out]) ?_)
  exact (HB.out.setCell (p:=⟨w.heap.size,0,none⟩) (Nat.le_refl _) _).setCell (p:=⟨w.heap.size,1,none⟩) (Nat.le_refl _) _
theorem flt_go_code {l:List ByteArray} {f:Flt}:∀n k,zbc l n k=some f→f.code=4∨f.code=6
 |0,_,h=>by cases h
 |n+1,k,h=>by
   unfold zbc at h
   split at h
   ·cases h
   ·split at h
    ·obtain rfl:=Option.some.inj h;exact .inl rfl
    ·split at h
     ·obtain rfl:=Option.some.inj h;exact .inr rfl
     ·exact flt_go_code n (k+1) h
theorem hosts_code19 {l:List ByteArray} {f:Flt} (h:zaf l=some f):1≤f.code∧f.code≤9:=by
 unfold zaf at h
 split at h
 ·obtain rfl:=Option.some.inj h;exact ⟨by decide,by decide⟩
 ·rcases flt_go_code _ _ h with h|h<;>omega
theorem zdy {l:List ByteArray} {f:Flt} (h:zaS l=some f):1≤f.code∧f.code≤9:=by
 unfold zaS at h
 split at h
 ·obtain rfl:=Option.some.inj h;exact ⟨by decide,by decide⟩
 ·exact hosts_code19 h
end Go.Proofs.YthkfhfldoniolaaGreatDoor
namespace Go.Proofs.YthkfhfldoniolaaGreatDoor
open Go.RowKit
theorem wrap_bv (a:BitVec 64):IntKind.u64.wrap (a.toNat:Int)=(a.toNat:Int):=by
 have h:=bv_add a 0
 simpa using h
theorem quo_27 (a:BitVec 64):IntKind.u64.wrap ((a.toNat:Int).tdiv (134217728:Int))=((a>>>27).toNat:Int):=by
 rw [Int.tdiv_eq_ediv_of_nonneg (Int.natCast_nonneg _),shr_27,wrap_bv]
theorem quo_30 (a:BitVec 64):IntKind.u64.wrap ((a.toNat:Int).tdiv (1073741824:Int))=((a>>>30).toNat:Int):=by
 rw [Int.tdiv_eq_ediv_of_nonneg (Int.natCast_nonneg _),shr_30,wrap_bv]
theorem quo_31 (a:BitVec 64):IntKind.u64.wrap ((a.toNat:Int).tdiv (2147483648:Int))=((a>>>31).toNat:Int):=by
 rw [Int.tdiv_eq_ediv_of_nonneg (Int.natCast_nonneg _),shr_31,wrap_bv]
theorem turnOf_bv (x:BitVec 64) (w:World):Calls Tryz.prog 43 #[.int .u64 (x.toNat:Int)] w fun e w'=>e= .returned (.int .u64 ((Mx.turnB x).toNat:Int))∧w=w':=by
 go_enter Tryz.func43,Tryz.ntmps43
 go_wp2
 go_ret
 exact ⟨ret_u64 (by simp only [add_G,quo_30,bv_xor,mul_1,quo_27,mul_2,quo_31];rfl),rfl⟩
theorem zcY (k:Nat) (w:World) (hk:U64 k):Calls Tryz.prog 43 #[.int .u64 (k:Int)] w (zcD (Mx.turn k) w):=by
 have h:=turnOf_bv (BitVec.ofNat 64 k) w
 rw [bv_of k hk] at h
 exact h
set_option maxRecDepth 100000 in
theorem zdr (s:ByteArray) (salt:Nat) (w:World) (hs:s.size≤maxLen) (hk:U64 salt):Calls Tryz.prog 74 #[.string s,.int .u64 (salt:Int)] w (zcD (ofN s salt) w):=by
 unfold maxLen at hs
 have HT:=Lib.hid (fun W=>zcY salt W hk)
 have HE:Hid (∀W,Calls Tryz.prog 43 #[.int .u64 ((zfb (nums s)^^^BitVec.ofNat 64 (Mx.turn salt)).toNat:Int)] W (zcD (ofN s salt) W)):=Lib.hid (fun W=>zcY (zfb (nums s)^^^BitVec.ofNat 64 (Mx.turn salt)).toNat W (bv_u64 _))
 have HX:=Lib.hid (fun c (h:ze4 s s.size c)=>hashIs_end h salt)
 have H0:=Lib.hid (hashIs_zero s)
 generalize Mx.turn salt=ts at*
 clear hk
 go_enter Tryz.func74,Tryz.ntmps74
 go_wp2_with fail
 go_loop [5,6] (fun hv iv=>∃(k:Nat) (c:Int),k≤s.size∧iv= .int .i64 (k:Int)∧hv= .int .u64 c∧Hid (ze4 s k c)) (fun _ iv=>s.size- (intOf iv).toNat)
 case atStart=>exact ⟨0,_,Nat.zero_le _,rfl,rfl,H0⟩
 case round=>
  obtain ⟨k,c,hk,rfl,rfl,hc⟩:=hrel
  clear H0
  by_cases hlt:k<s.size
  ·have hlt2:(k:Int)<s.size:=by omega
   have HS:=Lib.hid (hashIs_step hc.out hlt)
   go_wp2
   go_round
   case rel=>exact ⟨k+1,_,Nat.succ_le_of_lt hlt,by go_num,rfl,HS⟩
   case measure=>exact meas_k hlt
  ·obtain rfl:k=s.size:=by omega
   have hge:¬(s.size:Int)<s.size:=by omega
   go_wp2_with fail
   refine (HT.out _).mono ?_
   rintro e w1 ⟨rfl,rfl⟩
   go_wp2_with fail
   rw [HX.out _ hc.out]
   refine (HE.out _).mono ?_
   rintro e w1 ⟨rfl,rfl⟩
   go_wp2
   go_ret
   exact ⟨rfl,rfl⟩
end Go.Proofs.YthkfhfldoniolaaGreatDoor
namespace Go.Proofs.YthkfhfldoniolaaGreatDoor
open Go.Sort
section
variable {α:Type}
def insP (p:α→Bool) (x:α) (out:List α):List α:=out.takeWhile p++x::out.dropWhile p
theorem insP_perm (p:α→Bool) (x:α) (out:List α):(insP p x out).Perm (x::out):=by
 unfold insP
 have h:=List.perm_middle (a:=x) (l₁:=out.takeWhile p) (l₂:=out.dropWhile p)
 rwa [List.takeWhile_append_dropWhile] at h
theorem insP_sorted {lt:α→α→Bool} (hn:∀x y z,lt x y=false→lt y z=false→lt x z=false) {p:α→Bool} {x:α} (h1:∀y,p y=true→lt x y=false) (h2:∀y,p y=false→lt y x=false):
 ∀out:List α,out.Pairwise (fun a b=>lt b a=false)→(insP p x out).Pairwise fun a b=>lt b a=false
 |[],_=>by simp [insP]
 |y::r,h=>by
   obtain ⟨hy,hr⟩:=List.pairwise_cons.1 h
   cases hp:p y with
   |true=>
    have ih:=insP_sorted hn h1 h2 r hr
    have e:insP p x (y::r)=y::insP p x r:=by simp [insP,hp]
    rw [e]
    refine List.pairwise_cons.2 ⟨fun z hz=> ?_,ih⟩
    rcases List.mem_cons.1 ((insP_perm p x r).mem_iff.1 hz) with rfl|hz
    ·exact h1 _ hp
    ·exact hy z hz
   |false=>
    have e:insP p x (y::r)=x::y::r:=by simp [insP,hp]
    rw [e]
    refine List.pairwise_cons.2 ⟨fun z hz=> ?_,h⟩
    rcases List.mem_cons.1 hz with rfl|hz
    ·exact h2 _ hp
    ·exact hn _ _ _ (hy z hz) (h2 y hp)
def ze6 (p:α→α→Bool) (l:List α):List α:=l.foldl (fun out x=>insP (p x) x out) []
theorem insAll_snoc (p:α→α→Bool) (l:List α) (x:α):ze6 p (l++[x])=insP (p x) x (ze6 p l):=by simp [ze6,List.foldl_append]
theorem zdd (p:α→α→Bool):∀l:List α,(ze6 p l).Perm l:=by
 intro l
 have h:∀(l out:List α),(l.foldl (fun out x=>insP (p x) x out) out).Perm (out++l):=by
  intro l
  induction l with
  |nil=>intro out;simp
  |cons x l ih=>
   intro out
   rw [List.foldl_cons]
   refine (ih _).trans ?_
   exact ((insP_perm (p x) x out).append_right l).trans (by simpa using (List.perm_middle (a:=x) (l₁:=out) (l₂:=l)).symm)
 simpa [ze6] using h l []
theorem zfM {lt:α→α→Bool} (hn:∀x y z,lt x y=false→lt y z=false→lt x z=false) {p:α→α→Bool} (h1:∀x y,p x y=true→lt x y=false) (h2:∀x y,p x y=false→lt y x=false) (l:List α):
 (ze6 p l).Pairwise fun a b=>lt b a=false:=by
 have h:∀(l out:List α),out.Pairwise (fun a b=>lt b a=false)→(l.foldl (fun out x=>insP (p x) x out) out).Pairwise fun a b=>lt b a=false:=by
  intro l
  induction l with
  |nil=>intro out ho;exact ho
  |cons x l ih=>
   intro out ho
   rw [List.foldl_cons]
   exact ih _ (insP_sorted hn (h1 x) (h2 x) out ho)
 exact h l [] List.Pairwise.nil
theorem ins_stop {p:α→Bool}:∀{out:List α} {k:Nat},k≤out.length→(∀y∈out.take k,p y=true)→(∀y,out[k]? =some y→p y=false)→out.take k=out.takeWhile p∧out.drop k=out.dropWhile p
 |[],k,hk,_,_=>by simp at hk;subst hk;simp
 |y::r,0,_,_,h2=>by
   have:=h2 y rfl
   simp [this]
 |y::r,k+1,hk,h1,h2=>by
   have hy:p y=true:=h1 y (by simp)
   obtain ⟨a,b⟩:=ins_stop (p:=p) (out:=r) (k:=k) (by simpa using hk) (fun z hz=>h1 z (by simp [hz])) (fun z hz=>h2 z (by simpa using hz))
   simp [hy,a,b]
theorem insP_at {p:α→Bool} {x:α} {out:List α} {k:Nat} (hk:k≤out.length) (h1:∀y∈out.take k,p y=true) (h2:∀y,out[k]? =some y→p y=false):insP p x out=out.take k++x::out.drop k:=by
 obtain ⟨a,b⟩:=ins_stop hk h1 h2
 rw [insP,a,b]
theorem zfx {p:α→Bool} {out:List α} {k:Nat} (hk:k<out.length) (h:∀y∈out.take k,p y=true) (hp:p out[k]=true):∀y∈out.take (k+1),p y=true:=by
 intro y hy
 rw [List.take_succ_eq_append_getElem hk] at hy
 rcases List.mem_append.1 hy with hy|hy
 ·exact h y hy
 ·obtain rfl:y=out[k]:=by simpa using hy
  exact hp
end
end Go.Proofs.YthkfhfldoniolaaGreatDoor
namespace Go.Proofs.YthkfhfldoniolaaGreatDoor
open Go.RowKit Go.Sort
def pS (x y:ByteArray):Bool:=ltB y x
def insS (l:List ByteArray):List ByteArray:=ze6 pS l
theorem insS_len (l:List ByteArray):(insS l).length=l.length:=(zdd pS l).length_eq
theorem insS_sort (l:List ByteArray):insS l=za6 l:=by
 refine IsSortB.unique (l:=l) ⟨zdd pS l, ?_⟩ (zbR l)
 exact zfM (lt:=ltB) (fun _ _ _ h1 h2=>ltB_ntrans h1 h2) (fun x y h=>ltB_asymm h) (fun x y h=>h) l
theorem insS_next {l:List ByteArray} {i:Nat} (h:i<l.length):insS (l.take (i+1))=insP (pS l[i]) l[i] (insS (l.take i)):=by
 unfold insS
 rw [List.take_succ_eq_append_getElem h,insAll_snoc]
set_option maxRecDepth 100000 in
theorem sortedOf_any (A:Option Addr) (c:Nat) (l:List ByteArray) (w:World) (hr:Reads w w.heap.size 1 A l.length (zak l)) (hl:l.length≤30):Calls Tryz.prog 69 #[.slice A l.length c] w (zaL (za6 l) w):=by
 obtain ⟨i0,hi0,hz0,hz1,hz2⟩:=info_parts zb8
 have HP:Hid (∀v w',w'.ownsRow w.heap.size 9 1 v (insS l).length (zak (insS l))→Below w.heap.size w w'→zaL (za6 l) w (.returned v) w'):=Lib.hid fun v w' h1 h2=>by
  rw [insS_sort] at h1
  exact zdp h1 h2
 have HR:=Lib.hid hr
 clear hr
 go_enter Tryz.func69,Tryz.ntmps69
 go_wp2_with fail
 go_loopw [3,4] (fun ov iv wr=>∃i:Nat,i≤l.length∧iv= .int .i64 (i:Int)∧wr.ownsRow w.heap.size 9 1 ov (insS (l.take i)).length (zak (insS (l.take i)))∧Below w.heap.size w wr) (fun _ iv _=>l.length- (intOf iv).toNat)
 case atStart=>exact ⟨0,Nat.zero_le _,rfl,by simp [insS,ze6,zak,zcn],Below.refl _ _⟩
 case round=>
  obtain ⟨i,hi,rfl,hown,hb⟩:=hrel
  by_cases hlt:i<l.length
  ·have hlt2:(i:Int)<l.length:=by omega
   obtain ⟨adl,rfl,hSl⟩:=zdh ((HR.out.below hb).more hb.size) hlt
   have hol:=insS_len (l.take i)
   rw [List.length_take,Nat.min_eq_left hi] at hol
   have hnx:=insS_next hlt
   have HSl:=Lib.hid hSl
   generalize l[i]=x at*
   generalize insS (l.take i)=o at*
   have HNX:=Lib.hid hnx
   have hol2:o.length≤30:=by omega
   have HOL:=Lib.hid hol
   clear hnx hol hSl
   have cx:=HSl.out wr (Below.refl _ _)
   obtain ⟨Ao,co,hov,hro,hoc,_⟩:=zai hown
   subst hov
   go_wp2_with fail
   go_loopw [5] (fun kv wi=>∃k m:Nat,k≤o.length∧kv= .int .i64 (k:Int)∧wi=wr.drewN m∧Hid (∀y∈o.take k,pS x y=true)) (fun kv _=>o.length- (intOf kv).toNat)
   case atStart=>exact ⟨0,0,Nat.zero_le _,rfl,rfl,Lib.hid (by simp)⟩
   case round=>
    obtain ⟨k,m,hk,rfl,rfl,hall⟩:=hrel
    by_cases hgo:∃h:k<o.length,pS x o[k]=true
    ·obtain ⟨hko,hp⟩:=hgo
     obtain ⟨ado,rfl,hco⟩:=zcq hro hko
     have hko2:(k:Int)<o.length:=by omega
     have HA:=Lib.hid (zfx hko hall.out hp)
     have q1:Op.bytesLess o[k].toList x.toList=true:=hp
     clear hp
     go_wp2
     go_quiet (fail)
     go_wp2
     go_roundw
     case rel=>exact ⟨k+1,_,by omega,by go_num,rfl,HA⟩
     case measure=>simp [intOf];omega
    ·have HIns:Hid (insP (pS x) x o=o.take k++x::o.drop k):=Lib.hid (insP_at hk hall.out fun y hy=>by
      obtain ⟨hko,rfl⟩:=List.getElem?_eq_some_iff.1 hy
      rw [←Bool.not_eq_true]
      exact fun hp=>hgo ⟨hko,hp⟩)
     have HO1:=Lib.hid (fun u (hu:u∈(zak o).take (k*1))=>str_one u (List.mem_of_mem_take hu))
     have HO2:=Lib.hid (fun u (hu:u∈(zak o).drop (k*1))=>str_one u (List.mem_of_mem_drop hu))
     have HFin:Hid (∀(b:Nat) (v:Value) (W:World),w.heap.size≤b→W.ownsRow b 9 1 v (k+1+(o.length-k)) ((zak o).take (k*1)++[.string x]++(zak o).drop (k*1))→W.ownsRow w.heap.size 9 1 v (insS (l.take (i+1))).length (zak (insS (l.take (i+1))))):=Lib.hid fun b v W h1 h2=>by
      have h3:=h2.mono h1
      rw [HNX.out,HIns.out]
      have e1:(o.take k++x::o.drop k).length=k+1+(o.length-k):=by simp;omega
      have e2:zak (o.take k++x::o.drop k)=(zak o).take (k*1)++[.string x]++(zak o).drop (k*1):=by simp [zak,List.map_take,List.map_drop]
      rw [e1,e2];exact h3
     have hkc:(k:Int)≤co:=by omega
     have hkn:(k:Int)≤o.length:=by omega
     have hway:((decide (k<o.length)=true∧(k:Int)<o.length)∧∃(ado:Addr) (y:ByteArray),Ao=some ado∧wr.cell? (ado.add k)=some (.string y)∧Op.bytesLess y.toList x.toList=false)∨(decide (k<o.length)=false∧¬((k:Int)<o.length)):=by
      by_cases hko:k<o.length
      ·obtain ⟨ado,hA,hco⟩:=zcq hro hko
       refine .inl ⟨⟨by simp;omega,by omega⟩,ado,o[k],hA,hco, ?_⟩
       rw [←Bool.not_eq_true]
       exact fun hp=>hgo ⟨hko,hp⟩
      ·exact .inr ⟨by simp;omega,by omega⟩
     clear hgo hall
     cases hAo:Ao with
     |none=>
      subst hAo
      have ho0:o=[]:=by
       rcases hown.2 with ⟨_,h0⟩|⟨g,cap,cur,hv,_⟩
       ·exact List.eq_nil_of_length_eq_zero h0
       ·injection hv with h1;cases h1
      have hco0:co=0:=by
       rcases hown.2 with ⟨hv,_⟩|⟨g,cap,cur,hv,_⟩
       ·injection hv
       ·injection hv with h1;cases h1
      subst ho0
      subst hco0
      obtain rfl:k=0:=by simpa using hk
      rcases hway with ⟨_,ado',y,hA,_⟩|⟨d1,d2⟩
      ·cases hA
      ·skip
       go_wp2
       go_quiet (fail)
       have hb2:=below_drewN (below_drewN (Below.refl wr.heap.size wr) m) nq
       have hb0:=zaa hb hb2
       have hro2:Reads ((wr.drewN m).drewN nq) ((wr.drewN m).drewN nq).heap.size 1 none 0 (zak []):=hro
       generalize (wr.drewN m).drewN nq=wd at*
       have HRO:=Lib.hid hro2
       have HR1:Hid (∀W,Below wd.heap.size wd W→Reads W W.heap.size 1 none 0 ((zak []).take (0*1))):=Lib.hid fun W hW=>((HRO.out.below hW).more hW.size).take2 (Nat.le_refl 0)
       have HR2:Hid (∀W,Below wd.heap.size wd W→Reads W W.heap.size 1 none (0-0) ((zak []).drop (0*1))):=Lib.hid fun W hW=>Reads.none_
       have HFb:=Lib.hid hb0.size
       clear hro2 hb0
       go_wp2_with (first
        |(at_builtin
          refine zac _ rfl (.tmp 30) (.tmp 33) _ rfl wd.heap.size 9 i0 _ 1 16 Tryz.underlying24 hi0 hz0 hz1 hz2 rfl (by omega) (.slice none 0 0) 0 [] rfl (zcn _ _ _) wd.heap.size none 0 0 _ rfl (HR1.out _ (Below.refl _ _)) HO1.out (by simp only [maxLen];omega) (by omega) (Nat.le_refl _) ?_
          intro v1 w3 hown3 hg3 _
          simp only [Nat.zero_add,List.nil_append] at hown3
          have hb3:=(Below.refl wd.heap.size wd).grown hg3 (Nat.le_refl _) (by simp [Value.ownBlock])
          have HO3:=Lib.hid hown3
          have cx3:=HSl.out w3 (zaa hb2 hb3)
          clear hown3 hg3)
        |(at_builtin
          refine wpList_append_own _ rfl (.tmp 35) (.tmp 40) 24 rfl wd.heap.size 9 i0 (.string ⟨#[]⟩) 1 16 Tryz.underlying24 hi0 hz0 hz1 hz2 rfl (by decide) _ _ _ rfl (HO3.out.alloc _) ⟨w3.heap.size,0,none⟩ 1 1 [.string x] rfl rfl (cell_one_new _ _ _) (by simp [Value.oneCell']) (by simp only [maxLen];omega) (by omega) (zbi hb3) ?_
          intro v2 w4 hown4 hg4 _
          have hb4:=zbg hb3 HO3.out hg4
          have HO4:=Lib.hid hown4
          clear hown4 hg4)
        |(at_builtin
          go_must (refine zac _ rfl (.tmp 42) (.tmp 45) _ rfl wd.heap.size 9 i0 _ 1 16 Tryz.underlying24 hi0 hz0 hz1 hz2 rfl (by omega) _ (0+1) _ rfl HO4.out w4.heap.size _ (0-0) (0-0) _ rfl (HR2.out _ hb4) HO2.out (by simp only [maxLen];omega) (by omega) hb4.size ?_)
          intro v3 w5 hown5 hg5 _
          have hb5:=za9 hb4 HO4.out hg5
          have HO5:=Lib.hid (HFin.out _ v3 w5 HFb.out hown5)
          clear hown5 hg5)
        |fail)
       all_goals
        have hbf:=zaa (zaa hb hb2) hb5
        go_roundw
        case rel=>exact ⟨i+1,by omega,by go_num,HO5.out,hbf⟩
        case measure=>simp [intOf];omega
     |some ado=>
      subst hAo
      rcases hway with ⟨⟨d1,d2⟩,ado',y,hA,cy,q1⟩|⟨d1,d2⟩
      ·obtain rfl:=Option.some.inj hA
       go_wp2
       go_quiet (fail)
       have hb2:=below_drewN (below_drewN (Below.refl wr.heap.size wr) m) nq
       have hb0:=zaa hb hb2
       have hro2:Reads ((wr.drewN m).drewN nq) ((wr.drewN m).drewN nq).heap.size 1 (some ado) o.length (zak o):=hro
       generalize (wr.drewN m).drewN nq=wd at*
       have HRO:=Lib.hid hro2
       have HR1:Hid (∀W,Below wd.heap.size wd W→Reads W W.heap.size 1 (some ado) k ((zak o).take (k*1))):=Lib.hid fun W hW=>((HRO.out.below hW).more hW.size).take2 hk
       have HR2:Hid (∀W,Below wd.heap.size wd W→Reads W W.heap.size 1 (some (ado.add k)) (o.length-k) ((zak o).drop (k*1))):=Lib.hid fun W hW=>by
        have:=((HRO.out.below hW).more hW.size).cut (k:=k) hk hoc
        rw [if_neg (by omega)] at this
        simpa using this
       have HFb:=Lib.hid hb0.size
       clear hro2 hb0
       go_wp2_with (first
        |(at_builtin
          refine zac _ rfl (.tmp 30) (.tmp 33) _ rfl wd.heap.size 9 i0 _ 1 16 Tryz.underlying24 hi0 hz0 hz1 hz2 rfl (by omega) (.slice none 0 0) 0 [] rfl (zcn _ _ _) wd.heap.size (some ado) k co _ rfl (HR1.out _ (Below.refl _ _)) HO1.out (by simp only [maxLen];omega) (by omega) (Nat.le_refl _) ?_
          intro v1 w3 hown3 hg3 _
          simp only [Nat.zero_add,List.nil_append] at hown3
          have hb3:=(Below.refl wd.heap.size wd).grown hg3 (Nat.le_refl _) (by simp [Value.ownBlock])
          have HO3:=Lib.hid hown3
          have cx3:=HSl.out w3 (zaa hb2 hb3)
          clear hown3 hg3)
        |(at_builtin
          refine wpList_append_own _ rfl (.tmp 35) (.tmp 40) 24 rfl wd.heap.size 9 i0 (.string ⟨#[]⟩) 1 16 Tryz.underlying24 hi0 hz0 hz1 hz2 rfl (by decide) _ _ _ rfl (HO3.out.alloc _) ⟨w3.heap.size,0,none⟩ 1 1 [.string x] rfl rfl (cell_one_new _ _ _) (by simp [Value.oneCell']) (by simp only [maxLen];omega) (by omega) (zbi hb3) ?_
          intro v2 w4 hown4 hg4 _
          have hb4:=zbg hb3 HO3.out hg4
          have HO4:=Lib.hid hown4
          clear hown4 hg4)
        |(at_builtin
          go_must (refine zac _ rfl (.tmp 42) (.tmp 45) _ rfl wd.heap.size 9 i0 _ 1 16 Tryz.underlying24 hi0 hz0 hz1 hz2 rfl (by omega) _ (k+1) _ rfl HO4.out w4.heap.size _ (o.length-k) (co-k) _ rfl (HR2.out _ hb4) HO2.out (by simp only [maxLen];omega) (by omega) hb4.size ?_)
          intro v3 w5 hown5 hg5 _
          have hb5:=za9 hb4 HO4.out hg5
          have HO5:=Lib.hid (HFin.out _ v3 w5 HFb.out hown5)
          clear hown5 hg5)
        |fail)
       all_goals
        have hbf:=zaa (zaa hb hb2) hb5
        go_roundw
        case rel=>exact ⟨i+1,by omega,by go_num,HO5.out,hbf⟩
        case measure=>simp [intOf];omega
      ·go_wp2
       go_quiet (fail)
       have hb2:=below_drewN (below_drewN (Below.refl wr.heap.size wr) m) nq
       have hb0:=zaa hb hb2
       have hro2:Reads ((wr.drewN m).drewN nq) ((wr.drewN m).drewN nq).heap.size 1 (some ado) o.length (zak o):=hro
       generalize (wr.drewN m).drewN nq=wd at*
       have HRO:=Lib.hid hro2
       have HR1:Hid (∀W,Below wd.heap.size wd W→Reads W W.heap.size 1 (some ado) k ((zak o).take (k*1))):=Lib.hid fun W hW=>((HRO.out.below hW).more hW.size).take2 hk
       have HR2:Hid (∀W,Below wd.heap.size wd W→Reads W W.heap.size 1 (if co=k then some ado else some (ado.add k)) (o.length-k) ((zak o).drop (k*1))):=Lib.hid fun W hW=>by
        have:=((HRO.out.below hW).more hW.size).cut (k:=k) hk hoc
        simpa using this
       have HFb:=Lib.hid hb0.size
       clear hro2 hb0
       go_wp2_with (first
        |(at_builtin
          refine zac _ rfl (.tmp 30) (.tmp 33) _ rfl wd.heap.size 9 i0 _ 1 16 Tryz.underlying24 hi0 hz0 hz1 hz2 rfl (by omega) (.slice none 0 0) 0 [] rfl (zcn _ _ _) wd.heap.size (some ado) k co _ rfl (HR1.out _ (Below.refl _ _)) HO1.out (by simp only [maxLen];omega) (by omega) (Nat.le_refl _) ?_
          intro v1 w3 hown3 hg3 _
          simp only [Nat.zero_add,List.nil_append] at hown3
          have hb3:=(Below.refl wd.heap.size wd).grown hg3 (Nat.le_refl _) (by simp [Value.ownBlock])
          have HO3:=Lib.hid hown3
          have cx3:=HSl.out w3 (zaa hb2 hb3)
          clear hown3 hg3)
        |(at_builtin
          refine wpList_append_own _ rfl (.tmp 35) (.tmp 40) 24 rfl wd.heap.size 9 i0 (.string ⟨#[]⟩) 1 16 Tryz.underlying24 hi0 hz0 hz1 hz2 rfl (by decide) _ _ _ rfl (HO3.out.alloc _) ⟨w3.heap.size,0,none⟩ 1 1 [.string x] rfl rfl (cell_one_new _ _ _) (by simp [Value.oneCell']) (by simp only [maxLen];omega) (by omega) (zbi hb3) ?_
          intro v2 w4 hown4 hg4 _
          have hb4:=zbg hb3 HO3.out hg4
          have HO4:=Lib.hid hown4
          clear hown4 hg4)
        |(at_builtin
          go_must (refine zac _ rfl (.tmp 42) (.tmp 45) _ rfl wd.heap.size 9 i0 _ 1 16 Tryz.underlying24 hi0 hz0 hz1 hz2 rfl (by omega) _ (k+1) _ rfl HO4.out w4.heap.size _ (o.length-k) (co-k) _ rfl (HR2.out _ hb4) HO2.out (by simp only [maxLen];omega) (by omega) hb4.size ?_)
          intro v3 w5 hown5 hg5 _
          have hb5:=za9 hb4 HO4.out hg5
          have HO5:=Lib.hid (HFin.out _ v3 w5 HFb.out hown5)
          clear hown5 hg5)
        |fail)
       all_goals
        have hbf:=zaa (zaa hb hb2) hb5
        go_roundw
        case rel=>exact ⟨i+1,by omega,by go_num,HO5.out,hbf⟩
        case measure=>simp [intOf];omega
  ·have hlt2:¬((i:Int)<l.length):=by omega
   have hil:i=l.length:=by omega
   have HT:Hid (l.take i=l):=Lib.hid (by rw [hil,List.take_length])
   rw [HT.out] at hown
   have HO:=Lib.hid (HP.out _ _ hown hb)
   clear hil hown
   go_wp2
   go_ret
   exact HO.out
end Go.Proofs.YthkfhfldoniolaaGreatDoor
namespace Go.Proofs.YthkfhfldoniolaaGreatDoor
open Go.RowKit
theorem own_away {w:World} {b size n:Nat} {e:TypeId} {v:Value} {xs:List Value} (h:w.ownsRow b e size v n xs) {p:Addr} (hp:p.block<b) (u:Value):(w.setCell p u).ownsRow b e size v n xs:=
 h.kept (zce (World.grownBy.refl w _) (.inl rfl) u) (.inr fun e=>by have:=(h.lt _ e).1;omega)
theorem tableFault_some (l:List ByteArray) (n:Int):zah l n=match zaS l with|some f=>some f|none=>zar n:=by
 unfold zah zaS
 by_cases h:l.length=0
 ·rw [if_pos h,if_pos h]
 ·rw [if_neg h,if_neg h]
  cases zaf l<;>rfl
theorem sizeFault_bare {n:Int} {f:Flt} (h:zar n=some f):f.place=none:=by
 unfold zar at h
 split at h
 ·obtain rfl:=Option.some.inj h;rfl
 ·split at h
  ·cases h
  ·obtain rfl:=Option.some.inj h;rfl
set_option maxRecDepth 100000 in
theorem tableFault_ref (A:Option Addr) (c B:Nat) (l:List ByteArray) (n:Int) (w:World) (hr:Reads w B 1 A l.length (zak l)) (hB:B≤w.heap.size) (hl:l.length≤maxLen) (hs:∀s∈l,s.size≤maxLen):
 Calls Tryz.prog 34 #[.slice A l.length c,.int .i64 n] w (zaB (zah l n) w):=by
 have hb0:Below w.heap.size w (w.alloc (.cells #[.int .i64 0,.int .i64 0] 50)):=(Below.refl _ _).alloc (Nat.le_refl _) _
 have HH:=Lib.hid (zdS A c B l (w.alloc (.cells #[.int .i64 0,.int .i64 0] 50)) (hr.alloc hB _) (by simp;omega) hl hs)
 have HB0:=Lib.hid hb0
 have HN0:=Lib.hid (Blk.new w 50 #[.int .i64 0,.int .i64 0])
 have HFE:=Lib.hid (tableFault_some l n)
 clear hr hB hb0
 cases ho:zaS l with
 |some f=>
  rw [ho] at HH HFE
  have hc:=zdy ho
  have HF:Hid (zah l n=some f):=Lib.hid HFE.out
  have hz:((zcv (some f):Int)==0)=false:=beq_eq_false_iff_ne.2 (by show (f.code:Int)≠0;omega)
  unfold zaB at HH
  clear ho hc HFE
  obtain ⟨fc,hfc⟩:∃fc:Int,(zcv (some f):Int)=fc:=⟨_,rfl⟩
  obtain ⟨fa,hfa⟩:∃fa:Int,fAt (some f)=fa:=⟨_,rfl⟩
  have HV:Hid (zax (some f)= .agg #[.int .i64 fc,.int .i64 fa]):=Lib.hid (by unfold zax;rw [hfc,hfa])
  rw [hfc] at HH hz
  rw [hfa] at HH
  clear hfc hfa
  go_enter Tryz.func34,Tryz.ntmps34
  go_wp2_with fail
  refine HH.out.mono ?_
  rintro e w1 ⟨rfl,hb1⟩
  have hB1:=HN0.out.below hb1 HN0.out.lt
  have c0:=hB1.cell 0
  have c1:=hB1.cell 1
  have f0:=hB1.frozen 0
  have f1:=hB1.frozen 1
  have hz1:w.heap.size<w1.heap.size:=hB1.lt
  have HB:=Lib.hid (HB0.out.trans (hb1.mono HB0.out.size))
  clear hB1 hb1
  simp at c0 c1
  go_wp2
  refine bodyPost_ret (v:= .agg #[.int .i64 fc,.int .i64 fa]) (by simp [results,Tryz.results34,go_sem,c0,c1,hz1]) rfl (zaw HF.out (by rw [HV.out]) ?_)
  exact Below.alloc ((HB.out.setCell (p:=⟨w.heap.size,0,none⟩) (Nat.le_refl _) _).setCell (p:=⟨w.heap.size,1,none⟩) (Nat.le_refl _) _) (by have:=HB.out.size;simpa [World.setCell] using this) _
 |none=>
  rw [ho] at HH HFE
  unfold zaB at HH
  have HSE:=Lib.hid (fun W=>sizeError_any n W)
  cases hsf:zar n with
  |none=>
   have HF:Hid (zah l n=none):=Lib.hid (by rw [HFE.out];exact hsf)
   have HSC:Hid (∀W,Calls Tryz.prog 64 #[.int .i64 n] W fun e w'=>e= .returned (.int .i64 0)∧W=w'):=Lib.hid fun W=>by
    have:=HSE.out W
    unfold zcV at this
    rw [hsf] at this
    exact this
   clear ho hsf HFE HSE
   go_enter Tryz.func34,Tryz.ntmps34
   go_wp2_with fail
   refine HH.out.mono ?_
   rintro e w1 ⟨rfl,hb1⟩
   have hB1:=HN0.out.below hb1 HN0.out.lt
   have c0:=hB1.cell 0
   have c1:=hB1.cell 1
   have f0:=hB1.frozen 0
   have f1:=hB1.frozen 1
   have hz1:w.heap.size<w1.heap.size:=hB1.lt
   have HB:=Lib.hid (HB0.out.trans (hb1.mono HB0.out.size))
   clear hB1 hb1
   simp at c0 c1
   go_wp2_with fail
   refine (HSC.out _).mono ?_
   rintro e w2 ⟨rfl,rfl⟩
   go_wp2
   refine bodyPost_ret (v:=zax none) (by simp [results,Tryz.results34,go_sem,zax,zcv,fAt,c0,c1,hz1]) rfl (zaw HF.out rfl ?_)
   exact Below.alloc ((HB.out.setCell (p:=⟨w.heap.size,0,none⟩) (Nat.le_refl _) _).setCell (p:=⟨w.heap.size,1,none⟩) (Nat.le_refl _) _) (by have:=HB.out.size;simpa [World.setCell] using this) _
  |some f=>
   have HF:Hid (zah l n=some f):=Lib.hid (by rw [HFE.out];exact hsf)
   have hcode:=sizeFault_code hsf
   have hpl:=sizeFault_bare hsf
   obtain ⟨fc,hfc⟩:∃fc:Int,(f.code:Int)=fc:=⟨_,rfl⟩
   have hfp:(0:Int)<fc:=by omega
   have HV:Hid (zax (some f)= .agg #[.int .i64 fc,.int .i64 (-1)]):=Lib.hid (by unfold zax zcv fAt;simp only;rw [hpl,hfc])
   have HSC:Hid (∀W,Calls Tryz.prog 64 #[.int .i64 n] W fun e w'=>e= .returned (.int .i64 fc)∧W=w'):=Lib.hid fun W=>by
    have:=HSE.out W
    unfold zcV at this
    rw [hsf] at this
    rw [←hfc]
    exact this
   clear ho hsf HFE HSE hcode hpl hfc
   go_enter Tryz.func34,Tryz.ntmps34
   go_wp2_with fail
   refine HH.out.mono ?_
   rintro e w1 ⟨rfl,hb1⟩
   have hB1:=HN0.out.below hb1 HN0.out.lt
   have HB1:=Lib.hid (HB0.out.trans (hb1.mono HB0.out.size))
   have HX:=Lib.hid (hB1.alloc (.cells #[.int .i64 0,.int .i64 (-1)] 50))
   clear hB1 hb1
   go_wp2_with fail
   refine (HSC.out _).mono ?_
   rintro e w2 ⟨rfl,rfl⟩
   go_wp2_with fail
   refine (zfP _ _).mono ?_
   rintro e w2 ⟨rfl,hb2⟩
   have hB2:=HX.out.below hb2 HX.out.lt
   have c0:=hB2.cell 0
   have c1:=hB2.cell 1
   have f0:=hB2.frozen 0
   have f1:=hB2.frozen 1
   have hz1:w.heap.size<w2.heap.size:=hB2.lt
   have hba:=HB1.out.alloc HB1.out.size (.cells #[.int .i64 0,.int .i64 (-1)] 50)
   have HB:=Lib.hid (hba.trans (hb2.mono hba.size))
   clear hB2 hb2 hba
   simp at c0 c1
   go_wp2
   refine bodyPost_ret (v:= .agg #[.int .i64 fc,.int .i64 (-1)]) (by simp [results,Tryz.results34,go_sem,c0,c1]) rfl (zaw HF.out (by rw [HV.out]) ?_)
   exact (HB.out.setCell (p:=⟨w.heap.size,0,none⟩) (Nat.le_refl _) _).setCell (p:=⟨w.heap.size,1,none⟩) (Nat.le_refl _) _
end Go.Proofs.YthkfhfldoniolaaGreatDoor
namespace Go.Proofs.YthkfhfldoniolaaGreatDoor
open Go.RowKit
def rowL (s:ByteArray) (n:Nat):List Nat:=(List.range n).map (rowAt s n)
theorem rowL_take (s:ByteArray) {n j:Nat} (hj:j<n):(rowL s n).take (j+1)=(rowL s n).take j++[rowAt s n j]:=by
 have hl:j<(rowL s n).length:=by simpa [rowL] using hj
 rw [List.take_succ_eq_append_getElem hl]
 congr 2
 simp [rowL]
theorem zdP (s:ByteArray) (n:Nat):(rowL s n).length=n:=by simp [rowL]
def NumsPost (xs:List Nat) (w:World) (e:Ending) (w':World):Prop:=∃A cap,e= .returned (.slice A xs.length cap)∧w'.ownsRow w.heap.size 3 1 (.slice A xs.length cap) xs.length (zfX xs)∧Below w.heap.size w w'
set_option maxRecDepth 100000 in
theorem rowOf_ref (s:ByteArray) (n:Nat) (w:World) (hs:s.size≤maxLen) (hn:2≤n) (hn5:n≤503):Calls Tryz.prog 70 #[.string s,.int .i64 (n:Int)] w (NumsPost (rowL s n) w):=by
 obtain ⟨i0,hi0,hz0,hz1,hz2⟩:=info_parts info_num
 have H1:Hid (∀W,Calls Tryz.prog 74 #[.string s,.int .u64 1] W (zcD (ofN s 1) W)):=Lib.hid fun W=>zdr s 1 W hs (by unfold U64;omega)
 have H2:Hid (∀W,Calls Tryz.prog 74 #[.string s,.int .u64 2] W (zcD (ofN s 2) W)):=Lib.hid fun W=>zdr s 2 W hs (by unfold U64;omega)
 unfold zcD at H1 H2
 have l1:=Nat.mod_lt (ofN s 1) (show 0<n by omega)
 have l2:=Nat.mod_lt (ofN s 2) (show 0<n-1 by omega)
 have HRow:Hid (∀j:Nat,rowAt s n j=(ofN s 1%n+j*(ofN s 2%(n-1)+1))%n):=Lib.hid fun j=>by unfold rowAt zcK;rw [Nat.add_comm 1]
 have HTk:=Lib.hid (fun j (hj:j<n)=>rowL_take s hj)
 have HLen:=Lib.hid (zdP s n)
 have HPst:Hid (∀v w',w'.ownsRow w.heap.size 3 1 v n (zfX (rowL s n))→Below w.heap.size w w'→NumsPost (rowL s n) w (.returned v) w'):=Lib.hid fun v w' h1 h2=>by
  obtain ⟨A,cap,hv,_⟩:=zai h1
  subst hv
  have e:=zdP s n
  unfold NumsPost
  rw [e]
  exact ⟨A,cap,rfl,h1,h2⟩
 have q1b:¬n=0:=by omega
 have q1:¬(n:Int)=0:=by omega
 have q2:((n:Int) -1)=((n-1:Nat):Int):=by omega
 have q3:¬((n-1:Nat):Int)=0:=by omega
 have q3b:¬(n-1)=0:=by omega
 have e1:((ofN s 1:Nat):Int)%(n:Int)=((ofN s 1%n:Nat):Int):=rfl
 have e2:((ofN s 2:Nat):Int)%((n-1:Nat):Int)=((ofN s 2%(n-1):Nat):Int):=rfl
 have u1:(ofN s 1:Int)≤18446744073709551615:=by have:=ofN_lt s 1;unfold U64 at this;omega
 have u2:(ofN s 2:Int)≤18446744073709551615:=by have:=ofN_lt s 2;unfold U64 at this;omega
 generalize ofN s 1%n=xm at*
 generalize ofN s 2%(n-1)=ym at*
 generalize ofN s 1=x at*
 generalize ofN s 2=y at*
 generalize n-1=n1 at*
 clear u1 u2 hs
 go_enter Tryz.func70,Tryz.ntmps70
 go_wp2_with fail
 refine (H1.out _).mono ?_
 rintro e w1 ⟨rfl,rfl⟩
 go_wp2_with fail
 refine (H2.out _).mono ?_
 rintro e w1 ⟨rfl,rfl⟩
 go_wp2_with fail
 clear e1 e2
 go_loopg [7,8] n (fun g ov iv wr=>∃j:Nat,g+j=n∧iv= .int .i64 (j:Int)∧wr.ownsRow w.heap.size 3 1 ov j (zfX ((rowL s n).take j))∧Below w.heap.size w wr)
 case atStart=>exact ⟨0,by omega,rfl,⟨rfl,.inl ⟨rfl,rfl⟩⟩,Below.refl _ _⟩
 case round=>
  obtain ⟨j,hgj,rfl,hown,hb⟩:=hrel
  obtain ⟨Ao,co,hov,_⟩:=zai hown
  subst hov
  by_cases hlt:j<n
  ·have hlt2:(j:Int)<n:=by omega
   have hpr:j*(ym+1)≤503*503:=Nat.mul_le_mul (by omega) (by omega)
   have hc:(j:Int)*((ym:Int)+1)=((j*(ym+1):Nat):Int):=by push_cast;rfl
   have hx0:(0:Int)≤(j:Int)*((ym:Int)+1):=by omega
   have hx1:(j:Int)*((ym:Int)+1)≤300000:=by omega
   obtain ⟨p,hp⟩:∃p:Nat,p=rowAt s n j:=⟨_,rfl⟩
   have hpe:((xm:Int)+(j:Int)*((ym:Int)+1))%(n:Int)=(p:Int):=by
    rw [hp,HRow.out j,hc];rfl
   have HTj:Hid ((rowL s n).take (j+1)=(rowL s n).take j++[p]):=Lib.hid (by rw [HTk.out j hlt,hp])
   clear hc hp hpr
   generalize hq:(rowL s n).take j=q at*
   clear hq
   go_wp2_with (at_builtin
                go_must (refine wpList_append_own _ rfl _ _ 29 rfl w.heap.size 3 i0 (.int .i64 0) 1 8 Tryz.underlying29 hi0 hz0 hz1 hz2 rfl (by decide) _ _ _ rfl (hown.alloc _) ⟨wr.heap.size,0,none⟩ 1 1 [.int .i64 (p:Int)] rfl rfl (cell_one_new _ _ _) (by simp [Value.oneCell']) (by simp only [maxLen];omega) (by omega) (zbi hb) ?_)
                intro v6 w6 hown6 hg6 _)
   have hb6:=zbg hb hown hg6
   go_roundg (n- (j+1))
   case rel=>exact ⟨j+1,by omega,by go_num,by rw [HTj.out];simpa [zfX] using hown6,hb6⟩
   case measure=>omega
  ·obtain rfl:j=n:=by omega
   have hge:¬(j:Int)<j:=by omega
   have HF:=Lib.hid (HPst.out _ wr (by have h:=hown;rwa [List.take_of_length_le (by have:=HLen.out;omega)] at h) hb)
   clear hown
   go_wp2
   go_ret
   exact HF.out
end Go.Proofs.YthkfhfldoniolaaGreatDoor
namespace Go.Proofs.YthkfhfldoniolaaGreatDoor
open Go.RowKit
def atV (m:Nat) (cs:Nat→Nat):List Value:=(List.range m).map fun j=> .int .i64 (cs j:Int)
theorem atV_get {m k:Nat} {cs:Nat→Nat} (hk:k<m):(atV m cs).toArray[k]? =some (.int .i64 (cs k:Int)):=by simp [atV,hk]
theorem atV_set {m k c:Nat} {cs:Nat→Nat}:(atV m cs).toArray.setIfInBounds k (.int .i64 (c:Int))=(atV m (fun x=>if x=k then c else cs x)).toArray:=by
 simp only [List.setIfInBounds_toArray]
 congr 1
 apply List.ext_getElem
 ·simp [atV]
 ·intro i h1 h2
  simp only [atV,List.getElem_set,List.getElem_map,List.getElem_range]
  by_cases h:k=i
  ·subst h;simp
  ·simp [h,Ne.symm h]
theorem atV_zero (m:Nat):zej 0 m=atV m (fun _=>0):=by
 unfold zej atV
 apply List.ext_getElem
 ·simp
 ·intro i h1 h2
  simp
structure zc9 (w w1:World) (l names:List ByteArray) (ob ab:Nat) (cs:Nat→Nat) (T:List Int):Prop where
 out:Blk w ob 3 (outV l names T).toArray
 cnt:Blk w ab 3 (atV names.length cs).toArray
 low:Below w1.heap.size w1 w
 hob:w1.heap.size≤ob
 hab:ob<ab
theorem zc9.below {w w' w1:World} {l names:List ByteArray} {ob ab:Nat} {cs:Nat→Nat} {T:List Int} (h:zc9 w w1 l names ob ab cs T) (hb:Below w.heap.size w w'):zc9 w' w1 l names ob ab cs T:=
 ⟨h.out.below hb h.out.lt,h.cnt.below hb h.cnt.lt,zaa h.low hb,h.hob,h.hab⟩
theorem zc9.drew {w w1:World} {l names:List ByteArray} {ob ab:Nat} {cs:Nat→Nat} {T:List Int} (h:zc9 w w1 l names ob ab cs T):zc9 w.drew w1 l names ob ab cs T:=
 ⟨h.out.drew,h.cnt.drew,below_drew h.low,h.hob,h.hab⟩
theorem zc9.put {w w1:World} {l names:List ByteArray} {ob ab:Nat} {cs:Nat→Nat} {T:List Int} (h:zc9 w w1 l names ob ab cs T) (p j:Nat):
 zc9 (w.setCell ⟨ob,p,none⟩ (.int .i64 (idx l (zcy names j)))) w1 l names ob ab cs (T.set p (j:Int)):=by
 have h1:=h.hob
 have h2:=h.hab
 refine ⟨?_,h.cnt.far (by show ab≠ob;omega) _,h.low.setCell (p:=⟨ob,p,none⟩) (by show w1.heap.size≤ob;omega) _,h.hob,h.hab⟩
 rw [←outV_set];exact h.out.zbk p _
theorem zc9.up {w w1:World} {l names:List ByteArray} {ob ab:Nat} {cs:Nat→Nat} {T:List Int} (h:zc9 w w1 l names ob ab cs T) (k c:Nat):
 zc9 (w.setCell ⟨ab,k,none⟩ (.int .i64 (c:Int))) w1 l names ob ab (fun x=>if x=k then c else cs x) T:=by
 have h1:=h.hob
 have h2:=h.hab
 refine ⟨h.out.far (by show ob≠ab;omega) _, ?_,h.low.setCell (p:=⟨ab,k,none⟩) (by show w1.heap.size≤ab;omega) _,h.hob,h.hab⟩
 rw [←atV_set];exact h.cnt.zbk k _
theorem zc9.load {w w1:World} {l names:List ByteArray} {n ob ab t p:Nat} {cs:Nat→Nat} (h:zc9 w w1 l names ob ab cs (tab names n t)) (hT:TabOK names.length n t (tab names n t)) (hs:∀x∈names,x∈l) (hp:p<n):
 ∃sv:Int,w.cell? ⟨ob,p,none⟩=some (.int .i64 sv)∧w.frozen? ⟨ob,p,none⟩=false∧decide (sv≥0)=decide (Taken (tab names n t) p):=by
 have hl2:p<(tab names n t).length:=by rw [hT.len];exact hp
 refine ⟨_,(h.out.cell p).trans (outV_get hl2),h.out.frozen p, ?_⟩
 unfold Taken
 refine slot_free (m:=names.length) ?_ rfl hs
 rw [List.getD_eq_getElem?_getD,List.getElem?_eq_getElem hl2]
 exact hT.lt _ (List.getElem_mem hl2)
theorem zc9.count {w w1:World} {l names:List ByteArray} {ob ab k:Nat} {cs:Nat→Nat} {T:List Int} (h:zc9 w w1 l names ob ab cs T) (hk:k<names.length):
 w.cell? ⟨ab,k,none⟩=some (.int .i64 (cs k:Int))∧w.frozen? ⟨ab,k,none⟩=false:=⟨(h.cnt.cell k).trans (atV_get hk),h.cnt.frozen k⟩
def RefTabPost (l:List ByteArray) (n:Nat) (w:World) (e:Ending) (w':World):Prop:=
 ∃g,e= .returned (.slice (some ⟨g,0,none⟩) n n)∧Blk w' g 3 (tableOf l n).toArray∧w.heap.size≤g∧Below w.heap.size w w'
end Go.Proofs.YthkfhfldoniolaaGreatDoor
namespace Go.Proofs.YthkfhfldoniolaaGreatDoor
open Go.RowKit
theorem row_cell {W:World} {b n cap c:Nat} {A:Option Addr} {s:ByteArray} (h:W.ownsRow b 3 1 (.slice A n cap) n (zfX (rowL s n))) (hc:c<n) (hn:2≤n):∃(ad:Addr) (p:Nat),A=some ad∧p<n∧Hid (p=rowAt s n c)∧W.cell? (ad.add c)=some (.int .i64 (p:Int)):=by
 have hl:=zdP s n
 have hr:=Reads.zbv h
 obtain ⟨ad,rfl,hS⟩:=numAt_of (l:=rowL s n) (k:=c) (by rw [hl];exact hr) (by rw [hl];exact hc)
 refine ⟨ad,rowAt s n c,rfl,zfF s c hn,Lib.hid rfl, ?_⟩
 have:=hS W (Below.refl _ _)
 rw [this]
 simp [rowL]
theorem negV_zero {k n:Nat} (hk:k<n):(zej k n).toArray[k]? =some (.int .i64 0):=by
 unfold zej
 rw [List.getElem?_toArray,List.getElem?_append_right (by simp),List.getElem?_replicate,if_pos (by simp;omega)]
theorem setNeg (k n:Nat) (hk:k<n):(zej k n).toArray.setIfInBounds k (.int .i64 (-1))=(zej (k+1) n).toArray:=by
 simp only [List.setIfInBounds_toArray]
 congr 1
 apply List.ext_getElem
 ·simp [zej];omega
 ·intro i h1 h2
  simp only [zej,List.getElem_set,List.getElem_append,List.getElem_replicate,List.length_replicate]
  by_cases h:k=i
  ·subst h;simp
  ·by_cases h3:i<k
   ·simp [h,h3];omega
   ·simp [h,h3,show¬i<k+1 by omega]
set_option maxRecDepth 100000 in
theorem tableOf_ref (A:Option Addr) (c:Nat) (l:List ByteArray) (n:Nat) (w:World) (hr:Reads w w.heap.size 1 A l.length (zak l)) (hl:l.length≤maxLen) (hs:∀s∈l,s.size≤maxLen) (h0:0<l.length) (ho:zaf l=none) (hn:2≤n) (hn5:n≤503) (hd:zdV n):
 Calls Tryz.prog 42 #[.slice A l.length c,.int .i64 (n:Int)] w (RefTabPost l n w):=by
 obtain ⟨h12,hnm,hnd⟩:=zal.1 ho
 have hsl:=zcd l
 have HS:=Lib.hid (sortedOf_any A c l w hr (by omega))
 have HIX:Hid (∀x,∀W,Below w.heap.size w W→Calls Tryz.prog 41 #[.slice A l.length c,.string x] W fun e w'=>e= .returned (.int .i64 (idx l x))∧W=w'):=
  Lib.hid fun x W hW=>zfz A c W.heap.size l x W ((hr.below hW).more hW.size) hl
 have hperm:=(zbR l).1
 have hsnd:(za6 l).Nodup:=hperm.nodup_iff.2 hnd
 have HMem:=Lib.hid (fun x (hx:x∈za6 l)=>(hperm.mem_iff.1 hx:x∈l))
 have HSz:=Lib.hid (fun x (hx:x∈za6 l)=>hs x (hperm.mem_iff.1 hx))
 have HT:Hid (∀g e w',e= .returned (.slice (some ⟨g,0,none⟩) n n)→Blk w' g 3 (outV l (za6 l) (tab (za6 l) n n)).toArray→w.heap.size≤g→Below w.heap.size w w'→RefTabPost l n w e w'):=Lib.hid fun g e w' h1 h2 h3 h4=>⟨g,h1,h2,h3,h4⟩
 unfold zaL at HS
 have hm0:0<(za6 l).length:=by omega
 have hm12:(za6 l).length≤12:=by omega
 generalize za6 l=names at*
 have HTab:=Lib.hid (fun t (ht:t≤n)=>tab_ok names hm0 hn hd t ht)
 have HFF:=Lib.hid (fun s t (ht:t<n)=>zdw (s:=s) hn hd (tab_ok names hm0 hn hd t (by omega)).len (by rw [(tab_ok names hm0 hn hd t (by omega)).free];omega))
 have hmk:=make_zeros n (by omega)
 have hmk2:=make_zeros names.length (by omega)
 have q1:¬(names.length:Int)=0:=by omega
 have q2:¬names.length=0:=by omega
 have q2b:¬names=[]:=fun e=>by simp [e] at hm0
 clear hr hs ho hnm hnd hperm hsnd hsl hd
 go_enter Tryz.func42,Tryz.ntmps42
 go_wp2_with fail
 refine HS.out.mono ?_
 rintro e w1 ⟨A1,c1,rfl,ho1,hb1⟩
 have HR1:=Lib.hid (Reads.zbv ho1)
 have hB0:=Blk.new w1 3 (zej 0 n).toArray
 have hb0:Below w1.heap.size w1 (w1.alloc (.cells (zej 0 n).toArray 3)):=(Below.refl _ _).alloc (Nat.le_refl _) _
 clear ho1
 go_wp2_with fail
 go_loopg [7] n (fun g iv wr=>∃k:Nat,g+k=n∧iv= .int .i64 (k:Int)∧Hid (Blk wr w1.heap.size 3 (zej k n).toArray)∧Below w1.heap.size w1 wr)
 case atStart=>exact ⟨0,by omega,rfl,Lib.hid hB0,hb0⟩
 case round=>
  obtain ⟨k,hgk,rfl,hB,hb⟩:=hrel
  by_cases hlt:k<n
  ·have hlt2:(k:Int)<n:=by omega
   have g0:=hB.out.cell k
   have g1:=hB.out.frozen k
   have HB2:Hid (Blk (wr.setCell ⟨w1.heap.size,k,none⟩ (.int .i64 (-1))) w1.heap.size 3 (zej (k+1) n).toArray):=Lib.hid (by rw [←setNeg k n hlt];exact hB.out.zbk k _)
   have hb2:=hb.setCell (p:=⟨w1.heap.size,k,none⟩) (Nat.le_refl _) (.int .i64 (-1))
   rw [negV_zero hlt] at g0
   clear hB hmk hmk2
   go_wp2_with fail
   go_roundg (n- (k+1))
   case rel=>exact ⟨k+1,by omega,by go_num,HB2,hb2⟩
   case measure=>omega
  ·obtain rfl:k=n:=by omega
   have hge:¬(k:Int)<k:=by omega
   have HPst:Hid (zc9 (wr.alloc (.cells (zej 0 names.length).toArray 3)) w1 l names w1.heap.size wr.heap.size (fun _=>0) (tab names k 0)):=Lib.hid (by
    have h1:=hB.out
    have hba:Below wr.heap.size wr (wr.alloc (.cells (zej 0 names.length).toArray 3)):=(Below.refl _ _).alloc (Nat.le_refl _) _
    refine ⟨?_, ?_,zaa hb hba,Nat.le_refl _,h1.lt⟩
    ·rw [outV_start]
     have h2:=h1.below hba h1.lt
     rw [show zej k k=List.replicate k (Value.int .i64 (-1)) from by simp [zej]] at h2
     exact h2
    ·rw [←atV_zero];exact Blk.new _ _ _)
   obtain ⟨ab,hab⟩:∃ab:Nat,ab=wr.heap.size:=⟨_,rfl⟩
   rw [←hab] at HPst
   clear hB hmk
   go_wp2_with fail
   rw [←hab]
   clear hmk2 hb hab
   go_loopg [9] k (fun g iv wr=>∃(t:Nat) (cs:Nat→Nat),g+t=k∧iv= .int .i64 (t:Int)∧Hid (zc9 wr w1 l names w1.heap.size ab cs (tab names k t))∧Hid (Passed names k (tab names k t) cs))
   case atStart=>exact ⟨0,_,by omega,rfl,HPst,Lib.hid (Passed.start _ _ _)⟩
   case round=>
    obtain ⟨t,cs,hg,rfl,hS0,hP0⟩:=hrel
    by_cases hlt:t<k
    ·have hlt2:(t:Int)<k:=by omega
     obtain ⟨j,hj⟩:∃j:Nat,j=t%names.length:=⟨_,rfl⟩
     have hjl:j<names.length:=by rw [hj];exact Nat.mod_lt _ hm0
     have hjl2:(j:Int)<names.length:=by omega
     have q3:(t:Int).tmod (names.length:Int)=(j:Int):=by rw [Int.tmod_eq_emod_of_nonneg (by omega),hj];rfl
     have q3b:(t:Int)%(names.length:Int)=(j:Int):=by rw [hj];rfl
     have q3c:IntKind.i64.wrap ((t:Int).tmod (names.length:Int))=(j:Int):=by rw [q3];exact IntWalk.i64_in _ (by omega)
     have q3d:IntKind.i64.wrap ((t:Int)%(names.length:Int))=(j:Int):=by rw [q3b];exact IntWalk.i64_in _ (by omega)
     obtain ⟨adN,rfl,hSA⟩:=zdh HR1.out hjl
     have HSA3:Hid (∀W,Below w1.heap.size w1 W→W.cell? (adN.add j)=some (.string names[j])):=Lib.hid hSA
     have c0:=hSA wr hS0.out.low
     have hsz:=HSz.out _ (List.getElem_mem hjl)
     have hmem:=HMem.out _ (List.getElem_mem hjl)
     have HEq:=Lib.hid (nmAt_eq hjl)
     have HRow:=Lib.hid (fun W=>rowOf_ref names[j] k W hsz hn hn5)
     unfold NumsPost at HRow
     rw [zdP] at HRow
     have HJ:Hid (t%names.length=j):=Lib.hid hj.symm
     clear hSA hj
     go_wp2_with fail
     refine (HRow.out _).mono ?_
     rintro e w3 ⟨AR,cR,rfl,hoR,hb3⟩
     have hjt:t%names.length=j:=HJ.out
     have HTk:=Lib.hid (HTab.out t (by omega))
     have hff:=HFF.out (zcy names j) t hlt
     rw [HEq.out] at hff
     obtain ⟨hff1,hff2,hff3⟩:=hff
     obtain ⟨hcn,hpass⟩:=hP0.out j hjl
     rw [HEq.out] at hpass
     have hckn:cs j<k:=by
      rcases Nat.lt_or_ge (firstFree names[j] k (tab names k t)) (cs j) with h|h
      ·exact absurd hff2 (hpass _ h)
      ·omega
     have HPass:Hid (∀i,i<cs j→Taken (tab names k t) (rowAt names[j] k i)):=Lib.hid hpass
     have HUp:Hid (∀c,(∀i,i<c→Taken (tab names k t) (rowAt names[j] k i))→Taken (tab names k t) (rowAt names[j] k c)→c+1<k):=Lib.hid fun c h1 h2=>by
      rcases Nat.lt_or_ge c (firstFree names[j] k (tab names k t)) with h|h
      ·omega
      ·exfalso
       rcases Nat.lt_or_eq_of_le h with h3|h3
       ·exact h1 _ h3 hff2
       ·rw [h3] at hff2;exact h2 hff2
     have HFA:=Lib.hid (fun c (h1:c<k) (h2:∀i,i<c→Taken (tab names k t) (rowAt names[j] k i)) (h3:¬Taken (tab names k t) (rowAt names[j] k c))=>firstFree_at (s:=names[j]) (n:=k) (i:=c) (out:=tab names k t) h1 h2 (Classical.not_not.1 h3))
     have HPs:=Lib.hid (fun c (h1:c<k) (h2:firstFree names[j] k (tab names k t)=c) (h3:∀i,i<c→Taken (tab names k t) (rowAt names[j] k i))=>(show Passed names k (tab names k (t+1)) (fun x=>if x=j then c else cs x) from by
      have:=Passed.turn (t:=t) (c:=c) hn hP0.out h1 (by rw [hjt,HEq.out];exact h2) (by rw [hjt,HEq.out];exact h3)
      rw [hjt] at this
      intro i hi
      have h4:=this i hi
      by_cases h5:i=j
      ·simp only [if_pos h5] at h4 ⊢
       exact ⟨by omega,fun q hq=>h4.2 q (by omega)⟩
      ·simpa only [if_neg h5] using h4))
     obtain ⟨ix,hix⟩:∃ix:Int,ix=idx l names[j]:=⟨_,rfl⟩
     have HIX2:Hid (∀W,Below w.heap.size w W→Calls Tryz.prog 41 #[.slice A l.length c,.string names[j]] W fun e w'=>e= .returned (.int .i64 ix)∧W=w'):=Lib.hid (by rw [hix];exact HIX.out _)
     have HPut:Hid (∀W p c cs',zc9 W w1 l names w1.heap.size ab cs' (tab names k t)→firstFree names[j] k (tab names k t)=c→p=rowAt names[j] k c→zc9 (W.setCell ⟨w1.heap.size,p,none⟩ (.int .i64 ix)) w1 l names w1.heap.size ab cs' (tab names k (t+1))):=Lib.hid fun W p c cs' h1 h2 h3=>by
      have h4:=h1.put p j
      rw [HEq.out,←hix] at h4
      rw [tab_next (c:=c) (by rw [hjt,HEq.out];exact h2),hjt,HEq.out,←h3]
      exact h4
     have HS3:Hid (zc9 w3 w1 l names w1.heap.size ab (fun x=>if x=j then cs j else cs x) (tab names k t)):=Lib.hid (by
      rw [show (fun x=>if x=j then cs j else cs x)=cs from by funext x;by_cases h:x=j<;>simp [h]]
      exact hS0.out.below hb3)
     have habw:ab<wr.heap.size:=hS0.out.cnt.lt
     obtain ⟨adR,_,hAR,_,_,_⟩:=row_cell hoR hckn hn
     have HCell:Hid (∀(W:World) (c:Nat),c<k→W.ownsRow wr.heap.size 3 1 (.slice AR k cR) k (zfX (rowL names[j] k))→∃p:Nat,p<k∧Hid (p=rowAt names[j] k c)∧W.cell? (adR.add c)=some (.int .i64 (p:Int))):=Lib.hid fun W c h1 h2=>by
      obtain ⟨ad',p,hA',hp,he,hc⟩:=row_cell h2 h1 hn
      rw [hAR] at hA'
      obtain rfl:=Option.some.inj hA'
      exact ⟨p,hp,he,hc⟩
     have HO3:=Lib.hid hoR
     have HCk:=Lib.hid hckn
     have HW13:Hid (Below w1.heap.size w1 w3):=Lib.hid HS3.out.low
     clear hff1 hff2 hff3 hcn hpass hckn hix hoR hS0 hP0 c0 q3 q3b q3c q3d hmem hsz hjt
     generalize names[j]=x at*
     subst hAR
     go_wp2_with fail
     obtain ⟨wo,rfl⟩:∃wo:World,wo=wr:=⟨_,rfl⟩
     obtain ⟨g0,rfl⟩:∃g0:Nat,g0=gk:=⟨_,rfl⟩
     go_loopg [] (k-cs j) (fun g wi=>∃c:Nat,g+c=k∧c<k∧Hid (zc9 wi w1 l names w1.heap.size ab (fun x=>if x=j then c else cs x) (tab names k t))∧Hid (wi.ownsRow wo.heap.size 3 1 (.slice (some adR) k cR) k (zfX (rowL x k)))∧Hid (∀i,i<c→Taken (tab names k t) (rowAt x k i)))
     case atStart=>exact ⟨cs j,by have:=HCk.out;omega,HCk.out,HS3,HO3,HPass⟩
     case round=>
      obtain ⟨c,hgc,hck,hS,hO,hall⟩:=hrel
      obtain ⟨d0,d1⟩:=hS.out.count hjl
      simp only [if_pos] at d0
      obtain ⟨p,hp,hpe,d2⟩:=HCell.out wr c hck hO.out
      obtain ⟨sv,d3,d4,hfr⟩:=hS.out.load HTk.out HMem.out hp
      have hp2:(p:Int)<k:=by omega
      have hck2:(c:Int)<k:=by omega
      by_cases hfree:Taken (tab names k t) p
      case pos=>
       rw [decide_eq_true hfree] at hfr
       have hup:=HUp.out c hall.out (by rw [←hpe.out];exact hfree)
       have HAll:Hid (∀i,i<c+1→Taken (tab names k t) (rowAt x k i)):=Lib.hid fun i hi=>by
        rcases Nat.lt_succ_iff_lt_or_eq.1 hi with h|rfl
        ·exact hall.out i h
        ·rw [←hpe.out];exact hfree
       have HS2:Hid (zc9 (wr.setCell ⟨ab,j,none⟩ (.int .i64 ((c+1:Nat):Int))) w1 l names w1.heap.size ab (fun x=>if x=j then c+1 else cs x) (tab names k t)):=Lib.hid (by
        have:=hS.out.up j (c+1)
        rwa [show (fun y=>if y=j then c+1 else (fun x=>if x=j then c else cs x) y)=(fun x=>if x=j then c+1 else cs x) from by funext y;by_cases h:y=j<;>simp [h]] at this)
       have HO2:=Lib.hid (own_away hO.out (p:=⟨ab,j,none⟩) habw (.int .i64 ((c+1:Nat):Int)))
       have HB2:Hid (Below w.heap.size w wr):=Lib.hid (zaa hb1 hS.out.low)
       clear hfree
       go_wp2_with fail
       go_roundg (k- (c+1))
       case rel=>exact ⟨c+1,by omega,by omega,HS2,HO2,HAll⟩
       case measure=>omega
      case neg=>
       rw [decide_eq_false hfree] at hfr
       have HB2:Hid (Below w.heap.size w wr):=Lib.hid (zaa hb1 hS.out.low)
       have d5:=HSA3.out wr hS.out.low
       have HFr:Hid (¬Taken (tab names k t) (rowAt x k c)):=Lib.hid (by rw [←hpe.out];exact hfree)
       have HFe:=Lib.hid (HFA.out c hck hall.out HFr.out)
       have HPt:=Lib.hid (HPut.out wr.drew p c _ hS.out.drew HFe.out hpe.out)
       have HPs2:=Lib.hid (HPs.out c hck HFe.out hall.out)
       have e0:(wr.setCell ⟨w1.heap.size,p,none⟩ (.int .i64 ix)).drew.cell? ⟨ab,j,none⟩=some (.int .i64 (c:Int)):=by
        have h:=(HPt.out.count hjl).1
        simp only [if_pos] at h
        exact h
       have e1:(wr.setCell ⟨w1.heap.size,p,none⟩ (.int .i64 ix)).drew.cell? (adR.add c)=some (.int .i64 (p:Int)):=by
        obtain ⟨p',_,he,hc⟩:=HCell.out (wr.setCell ⟨w1.heap.size,p,none⟩ (.int .i64 ix)) c hck (own_away hO.out (Nat.lt_trans hS.out.hab habw) _)
        rw [he.out.trans hpe.out.symm] at hc
        exact hc
       have e2:(wr.setCell ⟨w1.heap.size,p,none⟩ (.int .i64 ix)).drew.cell? (adN.add j)=some (.string x):=HSA3.out _ HPt.out.low
       clear hfree
       go_wp2_with fail
       go_region_held3 (fun w'=>w'.cell? ⟨ab,j,none⟩=some (.int .i64 (c:Int))∧w'.cell? (adR.add c)=some (.int .i64 (p:Int))∧w'.cell? (adN.add j)=some (.string x)) (first|exact ⟨d0,d2,d5⟩|exact ⟨e0,e1,e2⟩|go_keep)
        ((go_at_call 41;refine (HIX2.out _ (below_drew HB2.out)).mono ?_;rintro e w8 ⟨rfl,rfl⟩))
       go_wp2_with fail
       go_roundg (k- (t+1))
       case rel=>exact ⟨t+1,_,by omega,by go_num,HPt,HPs2⟩
       case measure=>omega
    ·obtain rfl:t=k:=by omega
     have hge3:¬(t:Int)<t:=by omega
     have HF:=Lib.hid (HT.out w1.heap.size _ wr rfl hS0.out.out (by exact hb1.size) (zaa hb1 hS0.out.low))
     clear hS0 hP0
     go_wp2
     go_ret
     exact HF.out
end Go.Proofs.YthkfhfldoniolaaGreatDoor
namespace Go.Proofs.YthkfhfldoniolaaGreatDoor
open Go.RowKit
def IntsGood (xs:List Int) (w:World) (e:Ending) (w':World):Prop:=∃A c,e= .returned (.tuple #[.slice A xs.length c,.nilIface])∧Reads w' w'.heap.size 1 A xs.length (xs.map intV)∧Below w.heap.size w w'
def IntsPost (xs:List Int) (w:World) (e:Ending) (w':World):Prop:=∃A c,e= .returned (.slice A xs.length c)∧Reads w' w'.heap.size 1 A xs.length (xs.map intV)∧Below w.heap.size w w'
def FineIs (w:World) (e:Ending) (w':World):Prop:=e= .returned (.agg #[.int .i64 0,.int .i64 (-1)])∧Below w.heap.size w w'
theorem fine_of {w w':World} {e:Ending} (h:zaB none w e w'):FineIs w e w':=h
def MakeNo (ea:Nat→Addr) (l:List ByteArray) (size:Int) (f:Flt):Prop:=
 (∀W A c,zd4 ea W→zcr W A c l→Calls Tryz.prog 73 #[.slice A l.length c,.int .i64 size] W (zcC ea f W))∧
   ∀W A c,zcr W A c l→Calls Tryz.prog 34 #[.slice A l.length c,.int .i64 size] W (zaB (some f) W)
structure MakeYes (ea:Nat→Addr) (l:List ByteArray) (size:Int) (xs:List Int):Prop where
 len:xs.length≤maxLen
 sz:size=(xs.length:Int)
 slot:∀i,i<xs.length→∃j:Nat,xs[i]? =some (j:Int)∧j<l.length
 make:∀W A c,zd4 ea W→zcr W A c l→Calls Tryz.prog 73 #[.slice A l.length c,.int .i64 size] W (IntsGood xs W)
 fault:∀W A c,zcr W A c l→Calls Tryz.prog 34 #[.slice A l.length c,.int .i64 size] W (FineIs W)
 ref:∀W A c,zcr W A c l→Calls Tryz.prog 42 #[.slice A l.length c,.int .i64 size] W (IntsPost xs W)
theorem zeV (l:List ByteArray) (size:Int) (W:World) (A:Option Addr) (c:Nat) (hI:zcr W A c l):Calls Tryz.prog 34 #[.slice A l.length c,.int .i64 size] W (zaB (zah l size) W):=
 tableFault_ref A c W.heap.size l size W hI.r (Nat.le_refl _) hI.lm hI.s
theorem zcU (ea:Nat→Addr) (l:List ByteArray) (n:Nat) (hf:zah l (n:Int)=none):MakeYes ea l (n:Int) (za2 l n):=by
 obtain ⟨h0,ho,k,hk,h2,h5,hd⟩:=zaG hf
 obtain rfl:n=k:=by omega
 have hle:=zbB l n
 refine ⟨by rw [hle];unfold maxLen;omega,by rw [hle],fun i hi=> ?_,fun W A c hE hI=> ?_,fun W A c hI=> ?_,fun W A c hI=> ?_⟩
 ·obtain ⟨j,h1,h2,_⟩:=zeG (l:=l) h0 h2 hd (show i<n by omega)
  exact ⟨j,h1,h2⟩
 ·refine (make_good ea A c l n W hE hI hf).mono fun e w' ⟨g,he,hB,_,hb⟩=>⟨some ⟨g,0,none⟩,n,by rw [hle];exact he, ?_,hb⟩
  have:=zbq hB
  rw [ze2,zdm] at this
  rw [hle];exact this
 ·have:=zeV l (n:Int) W A c hI
  rw [hf] at this
  exact this.mono fun e w' h=>fine_of h
 ·refine (tableOf_ref A c l n W hI.r hI.lm hI.s h0 ho h2 h5 hd).mono fun e w' ⟨g,he,hB,_,hb⟩=>⟨some ⟨g,0,none⟩,n,by rw [hle];exact he, ?_,hb⟩
  have:=zbq hB
  rw [ze2,zdm] at this
  rw [hle];exact this
end Go.Proofs.YthkfhfldoniolaaGreatDoor
namespace Go.Proofs.YthkfhfldoniolaaGreatDoor
open Go.RowKit
def hOf (l:List ByteArray) (xs:List Int) (k:Nat):ByteArray:=(l[((xs[k]?).getD 0).toNat]?).getD ByteArray.empty
def movN (a b:List ByteArray) (xs ys:List Int):Nat→Nat
 |0=>0
 |k+1=>movN a b xs ys k+if hOf a xs k=hOf b ys k then 0 else 1
theorem movN_le (a b:List ByteArray) (xs ys:List Int):∀k,movN a b xs ys k≤k
 |0=>Nat.le_refl _
 |k+1=>by
   have:=movN_le a b xs ys k
   unfold movN
   split<;>omega
theorem hOf_at {ea:Nat→Addr} {l:List ByteArray} {size:Int} {xs:List Int} (h:MakeYes ea l size xs) {k:Nat} (hk:k<xs.length):∃j:Nat,∃hj:j<l.length,xs[k]=(j:Int)∧l[j]=hOf l xs k:=by
 obtain ⟨j,h1,h2⟩:=h.slot k hk
 refine ⟨j,h2, ?_, ?_⟩
 ·rw [List.getElem?_eq_getElem hk] at h1
  exact Option.some.inj h1
 ·unfold hOf
  rw [h1]
  simp [h2]
theorem movN_same {a b:List ByteArray} {xs ys:List Int} {k:Nat} (h:hOf a xs k=hOf b ys k):movN a b xs ys (k+1)=movN a b xs ys k:=by
 show _+_=_
 rw [if_pos h];rfl
theorem movN_other {a b:List ByteArray} {xs ys:List Int} {k:Nat} (h:¬hOf a xs k=hOf b ys k):movN a b xs ys (k+1)=movN a b xs ys k+1:=by
 show _+_=_
 rw [if_neg h]
def MovesBad (ea:Nat→Addr) (f:Flt) (w:World) (e:Ending) (w':World):Prop:=∃t a,e= .returned (.tuple #[.int .i64 0,.iface t (.pointer (some a))])∧zd9 ea w' f t a∧Below w.heap.size w w'
def MovesGood (n:Nat) (w:World) (e:Ending) (w':World):Prop:=e= .returned (.tuple #[.int .i64 (n:Int),.nilIface])∧Below w.heap.size w w'
set_option maxRecDepth 100000 in
theorem moves_bad1 (ea:Nat→Addr) (A B:Option Addr) (c d:Nat) (a b:List ByteArray) (size:Int) (f:Flt) (w:World) (hE:zd4 ea w) (hI:zcr w A c a) (hM:MakeNo ea a size f):
 Calls Tryz.prog 48 #[.slice A a.length c,.slice B b.length d,.int .i64 size] w (MovesBad ea f w):=by
 have HM:=Lib.hid (hM.1 w A c hE hI)
 clear hE hI hM
 go_enter Tryz.func48,Tryz.ntmps48
 go_wp2_with fail
 refine HM.out.mono ?_
 rintro e w1 ⟨t,x,rfl,hX,hb1⟩
 go_wp2
 go_ret2
 exact ⟨t,x,rfl,hX,hb1⟩
set_option maxRecDepth 100000 in
theorem moves_bad2 (ea:Nat→Addr) (A B:Option Addr) (c d:Nat) (a b:List ByteArray) (size:Int) (xs:List Int) (f:Flt) (w:World) (hE:zd4 ea w) (hI:zcr w A c a) (hJ:zcr w B d b) (hM:MakeYes ea a size xs) (hM2:MakeNo ea b size f):
 Calls Tryz.prog 48 #[.slice A a.length c,.slice B b.length d,.int .i64 size] w (MovesBad ea f w):=by
 have HM:=Lib.hid (hM.make w A c hE hI)
 have HM2:Hid (∀W,Below w.heap.size w W→Calls Tryz.prog 73 #[.slice B b.length d,.int .i64 size] W (zcC ea f W)):=Lib.hid fun W hW=>hM2.1 W B d (hE.below hW) (hJ.below hW)
 clear hE hI hJ hM hM2
 go_enter Tryz.func48,Tryz.ntmps48
 go_wp2_with fail
 refine HM.out.mono ?_
 rintro e w1 ⟨A1,c1,rfl,_,hb1⟩
 go_wp2_with fail
 refine (HM2.out _ hb1).mono ?_
 rintro e w2 ⟨t,x,rfl,hX,hb2⟩
 go_wp2
 go_ret2
 exact ⟨t,x,rfl,hX,zaa hb1 hb2⟩
set_option maxRecDepth 100000 in
theorem moves_good (ea:Nat→Addr) (A B:Option Addr) (c d:Nat) (a b:List ByteArray) (size:Int) (xs ys:List Int) (w:World) (hE:zd4 ea w) (hI:zcr w A c a) (hJ:zcr w B d b) (hM:MakeYes ea a size xs) (hM2:MakeYes ea b size ys):
 Calls Tryz.prog 48 #[.slice A a.length c,.slice B b.length d,.int .i64 size] w (MovesGood (movN a b xs ys xs.length) w):=by
 have hxl:=hM.len
 unfold maxLen at hxl
 have hyl:ys.length=xs.length:=by
  have h1:=hM.sz
  have h2:=hM2.sz
  omega
 have HM:=Lib.hid (hM.make w A c hE hI)
 have HM2:Hid (∀W,Below w.heap.size w W→Calls Tryz.prog 73 #[.slice B b.length d,.int .i64 size] W (IntsGood ys W)):=Lib.hid fun W hW=>hM2.make W B d (hE.below hW) (hJ.below hW)
 have HS:Hid (∀k (h:k<xs.length),∃j:Nat,∃hj:j<a.length,xs[k]=(j:Int)∧a[j]=hOf a xs k):=Lib.hid fun k h=>hOf_at hM h
 have HS2:Hid (∀k (h:k<ys.length),∃j:Nat,∃hj:j<b.length,ys[k]=(j:Int)∧b[j]=hOf b ys k):=Lib.hid fun k h=>hOf_at hM2 h
 have HI:=Lib.hid hI.r
 have HJ:=Lib.hid hJ.r
 have HYL:=Lib.hid hyl
 clear hE hI hJ hM hM2 hyl
 go_enter Tryz.func48,Tryz.ntmps48
 go_wp2_with fail
 refine HM.out.mono ?_
 rintro e w1 ⟨A1,c1,rfl,hX,hb1⟩
 have HX:=Lib.hid hX
 clear hX
 go_wp2_with fail
 refine (HM2.out _ hb1).mono ?_
 rintro e w2 ⟨A2,c2,rfl,hY,hb2⟩
 have HY:=Lib.hid hY
 clear hY
 have hb02:=zaa hb1 hb2
 go_wp2_with fail
 go_loopg [11,33] xs.length (fun g mv iv wr=>∃k m:Nat,g+k=xs.length∧iv= .int .i64 (k:Int)∧mv= .int .i64 (movN a b xs ys k:Int)∧wr=w2.drewN m)
 case atStart=>exact ⟨0,0,by omega,rfl,rfl,rfl⟩
 case round=>
  obtain ⟨k,m,hgk,rfl,rfl,rfl⟩:=hrel
  have hle:=movN_le a b xs ys k
  by_cases hlt:k<xs.length
  ·have hlt2:(k:Int)<xs.length:=by omega
   obtain ⟨ad1,rfl,hc1⟩:=intsI_at HX.out hlt
   obtain ⟨ad2,rfl,hc2⟩:=intsI_at HY.out (by rw [HYL.out];exact hlt:k<ys.length)
   obtain ⟨j1,hj1,e1,e2⟩:=HS.out k hlt
   obtain ⟨j2,hj2,e3,e4⟩:=HS2.out k (by rw [HYL.out];exact hlt)
   obtain ⟨ad3,rfl,hc3⟩:=zdh HI.out hj1
   obtain ⟨ad4,rfl,hc4⟩:=zdh HJ.out hj2
   have g1:=hc1 _ hb2
   have g2:=hc2 _ (Below.refl _ _)
   have g3:=hc3 _ hb02
   have g4:=hc4 _ hb02
   rw [e1] at g1
   rw [e3] at g2
   rw [e2] at g3
   rw [e4] at g4
   have hj1':(j1:Int)<a.length:=by omega
   have hj2':(j2:Int)<b.length:=by omega
   have hlty:(k:Int)<ys.length:=by have:=HYL.out;omega
   clear hc1 hc2 hc3 hc4 e1 e2 e3 e4
   by_cases he:hOf a xs k=hOf b ys k
   ·have HN:=Lib.hid (movN_same he)
    rw [←he] at g4
    have q1:((hOf a xs k).toList==(hOf a xs k).toList)=true:=by simp
    have q2:((hOf a xs k).toList !=(hOf a xs k).toList)=false:=by simp
    clear he
    generalize hOf a xs k=s at*
    generalize movN a b xs ys k=mv at*
    go_wp2
    go_quiet (fail)
    go_wp2
    go_roundg (xs.length- (k+1))
    case rel=>exact ⟨k+1,_,by omega,by go_num,by rw [HN.out],rfl⟩
    case measure=>omega
   ·have HN:=Lib.hid (movN_other he)
    have q1:((hOf a xs k).toList==(hOf b ys k).toList)=false:=by rw [str_eq];simpa using he
    have q2:((hOf a xs k).toList !=(hOf b ys k).toList)=true:=by rw [bne,q1];rfl
    clear he
    generalize hOf a xs k=s at*
    generalize hOf b ys k=t at*
    generalize movN a b xs ys k=mv at*
    go_wp2
    go_quiet (fail)
    go_wp2
    go_roundg (xs.length- (k+1))
    case rel=>exact ⟨k+1,_,by omega,by go_num,by rw [HN.out];go_num,rfl⟩
    case measure=>omega
  ·obtain rfl:k=xs.length:=by omega
   have hge:¬((xs.length:Int)<xs.length):=by omega
   have hbm:=below_drewN hb02 m
   go_wp2
   go_ret2
   exact ⟨rfl,hbm⟩
end Go.Proofs.YthkfhfldoniolaaGreatDoor
