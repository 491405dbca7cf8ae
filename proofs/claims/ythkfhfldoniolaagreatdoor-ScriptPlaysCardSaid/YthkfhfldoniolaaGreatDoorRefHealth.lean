/-
  The reference's health in memory, and the walks that read it: HealthFault, Find, IsUp, Ups, NewHealth. The reference's health in memory, and the walks that read it: Find, IsUp, Ups. The walks of the reference's health that write: NewHealth, Add, Remove. The walks of the reference's health that write: NewHealth, Add, Remove, where they do. The walk of the reference's NewHealth. The walk of the reference's Look. The walk of the reference's Look, where the host is found. The reference's health beside the program's: what matches.
-/
import Derived.Test.YthkfhfldoniolaaGreatDoorRefFault
import Derived.Test.YthkfhfldoniolaaGreatDoorTexts
import Derived.Test.YthkfhfldoniolaaGreatDoorHealthOps
import Derived.Deep.RegionLaw
set_option maxHeartbeats 4000000
namespace Go.Proofs.YthkfhfldoniolaaGreatDoor
open Go.RowKit
def zdu (fall rise:Int):Prop:=1≤fall∧fall≤10∧1≤rise∧rise≤10
instance (fall rise:Int):Decidable (zdu fall rise):=by unfold zdu;infer_instance
def zbD (l:List ByteArray) (fall rise:Int):Option Flt:=match zaf l with
 |some f=>some f
 |none=>if zdu fall rise then none else some ⟨2,none⟩
theorem faultGo_code {l:List ByteArray}:∀(n i:Nat) (f:Flt),zbc l n i=some f→f.code=4∨f.code=6
 |0,_,f,h=>by cases h
 |n+1,i,f,h=>by
   rw [zbc] at h
   split at h
   ·cases h
   ·split at h
    ·cases h;exact .inl rfl
    ·split at h
     ·cases h;exact .inr rfl
     ·exact faultGo_code n _ f h
theorem hostsFault_code {l:List ByteArray} {f:Flt} (h:zaf l=some f):f.code=2∨f.code=4∨f.code=6:=by
 unfold zaf at h
 split at h
 ·cases h;exact .inl rfl
 ·exact .inr (faultGo_code _ _ f h)
theorem edges_ways {fall rise:Int} (h:¬zdu fall rise):
 (decide (fall<1)=true)∨(decide (fall<1)=false∧decide (fall>10)=true)∨(decide (fall<1)=false∧decide (fall>10)=false∧decide (rise<1)=true)∨(decide (fall<1)=false∧decide (fall>10)=false∧decide (rise<1)=false∧decide (rise>10)=true):=by
 unfold zdu at h
 simp only [decide_eq_true_eq,decide_eq_false_iff_not]
 omega
set_option maxRecDepth 100000 in
theorem healthFault_ref (A:Option Addr) (c B:Nat) (l:List ByteArray) (fall rise:Int) (w:World) (hr:Reads w B 1 A l.length (zak l)) (hB:B≤w.heap.size) (hl:l.length≤maxLen) (hs:∀s∈l,s.size≤maxLen):
 Calls Tryz.prog 33 #[.slice A l.length c,.int .i64 fall,.int .i64 rise] w (zaB (zbD l fall rise) w):=by
 have hb0:Below w.heap.size w (w.alloc (.cells #[.int .i64 0,.int .i64 0] 50)):=(Below.refl _ _).alloc (Nat.le_refl _) _
 have HH:=Lib.hid (ze3 A c B l (w.alloc (.cells #[.int .i64 0,.int .i64 0] 50)) (hr.alloc hB _) (by simp;omega) hl hs)
 have HB0:=Lib.hid hb0
 have HN0:=Lib.hid (Blk.new w 50 #[.int .i64 0,.int .i64 0])
 clear hr hB hb0
 cases ho:zaf l with
 |some f=>
  rw [ho] at HH
  have hc:=hostsFault_code ho
  have HF:Hid (zbD l fall rise=some f):=Lib.hid (by unfold zbD;rw [ho])
  have hz:((zcv (some f):Int)==0)=false:=beq_eq_false_iff_ne.2 (by show (f.code:Int)≠0;omega)
  unfold zaB at HH
  clear ho hc
  obtain ⟨fc,hfc⟩:∃fc:Int,(zcv (some f):Int)=fc:=⟨_,rfl⟩
  obtain ⟨fa,hfa⟩:∃fa:Int,fAt (some f)=fa:=⟨_,rfl⟩
  have HV:Hid (zax (some f)= .agg #[.int .i64 fc,.int .i64 fa]):=Lib.hid (by unfold zax;rw [hfc,hfa])
  rw [hfc] at HH hz
  rw [hfa] at HH
  clear hfc hfa
  go_enter Tryz.func33,Tryz.ntmps33
  go_wp2_with fail
  refine HH.out.mono ?_
  rintro e w1 ⟨rfl,hb1⟩
  have hB1:=HN0.out.below hb1 HN0.out.lt
  have c0:=hB1.cell 0
  have c1:=hB1.cell 1
  have f0:=hB1.frozen 0
  have f1:=hB1.frozen 1
  have hz1:w.heap.size<w1.heap.size:=hB1.lt
  have HB:=Lib.hid (HB0.out.trans (hb1.mono HB0.out.size))
  clear hB1 hb1
  simp at c0 c1
  go_wp2
  refine bodyPost_ret (v:= .agg #[.int .i64 fc,.int .i64 fa]) (by simp [results,Tryz.results33,go_sem,c0,c1,hz1]) rfl (zaw HF.out (by rw [HV.out]) ?_)
  exact Below.alloc ((HB.out.setCell (p:=⟨w.heap.size,0,none⟩) (Nat.le_refl _) _).setCell (p:=⟨w.heap.size,1,none⟩) (Nat.le_refl _) _) (by have:=HB.out.size;simpa [World.setCell] using this) _
 |none=>
  rw [ho] at HH
  unfold zaB at HH
  by_cases he:zdu fall rise
  ·have HF:Hid (zbD l fall rise=none):=Lib.hid (by unfold zbD;rw [ho];simp only [if_pos he])
   have a1:decide (fall<1)=false:=by unfold zdu at he;simp;omega
   have a2:decide (fall>10)=false:=by unfold zdu at he;simp;omega
   have a3:decide (rise<1)=false:=by unfold zdu at he;simp;omega
   have a4:decide (rise>10)=false:=by unfold zdu at he;simp;omega
   clear ho he
   go_enter Tryz.func33,Tryz.ntmps33
   go_wp2_with fail
   refine HH.out.mono ?_
   rintro e w1 ⟨rfl,hb1⟩
   have hB1:=HN0.out.below hb1 HN0.out.lt
   have c0:=hB1.cell 0
   have c1:=hB1.cell 1
   have f0:=hB1.frozen 0
   have f1:=hB1.frozen 1
   have hz1:w.heap.size<w1.heap.size:=hB1.lt
   have HB:=Lib.hid (HB0.out.trans (hb1.mono HB0.out.size))
   clear hB1 hb1
   simp at c0 c1
   go_wp2
   refine bodyPost_ret (v:=zax none) (by simp [results,Tryz.results33,go_sem,zax,zcv,fAt,c0,c1,hz1]) rfl (zaw HF.out rfl ?_)
   exact Below.alloc ((HB.out.setCell (p:=⟨w.heap.size,0,none⟩) (Nat.le_refl _) _).setCell (p:=⟨w.heap.size,1,none⟩) (Nat.le_refl _) _) (by have:=HB.out.size;simpa [World.setCell] using this) _
  ·have HF:Hid (zbD l fall rise=some ⟨2,none⟩):=Lib.hid (by unfold zbD;rw [ho];simp only [if_neg he])
   have hw:=edges_ways he
   clear ho he
   rcases hw with a1|⟨a1,a2⟩|⟨a1,a2,a3⟩|⟨a1,a2,a3,a4⟩
   all_goals
    go_enter Tryz.func33,Tryz.ntmps33
    go_wp2_with fail
    refine HH.out.mono ?_
    rintro e w1 ⟨rfl,hb1⟩
    have hB1:=HN0.out.below hb1 HN0.out.lt
    have HB1:=Lib.hid (HB0.out.trans (hb1.mono HB0.out.size))
    have HX:=Lib.hid (hB1.alloc (.cells #[.int .i64 0,.int .i64 (-1)] 50))
    clear hB1 hb1
    go_wp2_with fail
    refine (zfP _ _).mono ?_
    rintro e w2 ⟨rfl,hb2⟩
    have hB2:=HX.out.below hb2 HX.out.lt
    have c0:=hB2.cell 0
    have c1:=hB2.cell 1
    have f0:=hB2.frozen 0
    have f1:=hB2.frozen 1
    have hz1:w.heap.size<w2.heap.size:=hB2.lt
    have hba:=HB1.out.alloc HB1.out.size (.cells #[.int .i64 0,.int .i64 (-1)] 50)
    have HB:=Lib.hid (hba.trans (hb2.mono hba.size))
    clear hB2 hb2 hba
    simp at c0 c1
    go_wp2
    refine bodyPost_ret (v:=zax (some ⟨2,none⟩)) (by simp [results,Tryz.results33,go_sem,zax,zcv,fAt,c0,c1]) rfl (zaw HF.out rfl ?_)
    exact (HB.out.setCell (p:=⟨w.heap.size,0,none⟩) (Nat.le_refl _) _).setCell (p:=⟨w.heap.size,1,none⟩) (Nat.le_refl _) _
end Go.Proofs.YthkfhfldoniolaaGreatDoor
namespace Go.Proofs.YthkfhfldoniolaaGreatDoor
open Go.RowKit
structure Rt where
 host:ByteArray
 up:Bool
 looks:List Bool
def zdH (l:List Bool):List Value:=l.map Value.bool
def flat:List Rt→List Value→List Value
 |r::rs,v::vs=> .string r.host:: .bool r.up::v::flat rs vs
 |_,_=>[]
theorem flat_at:∀(rs:List Rt) (vs:List Value) (k:Nat) (r:Rt) (v:Value),rs[k]? =some r→vs[k]? =some v→
 (flat rs vs)[k*3]? =some (.string r.host)∧(flat rs vs)[k*3+1]? =some (.bool r.up)∧(flat rs vs)[k*3+2]? =some v
 |[],_,_,_,_,h,_=>by cases h
 |_::_,[],_,_,_,_,h=>by cases h
 |r::rs,v::vs,0,r',v',h,h'=>by cases h;cases h';exact ⟨rfl,rfl,rfl⟩
 |r::rs,v::vs,k+1,r',v',h,h'=>by
   have:=flat_at rs vs k r' v' h h'
   rw [show (k+1)*3=k*3+1+1+1 by omega]
   exact this
theorem flat_append:∀(rs rs':List Rt) (vs vs':List Value),vs.length=rs.length→flat (rs++rs') (vs++vs')=flat rs vs++flat rs' vs'
 |[],rs',[],vs',_=>rfl
 |[],_,_::_,_,h=>by cases h
 |_::_,_,[],_,h=>by cases h
 |r::rs,rs',v::vs,vs',h=>by simp only [List.cons_append,flat];rw [flat_append rs rs' vs vs' (by simpa using h)]
theorem flat_set:∀(rs:List Rt) (vs:List Value) (k:Nat) (r:Rt) (v:Value),vs.length=rs.length→k<rs.length→
 (((flat rs vs).set (k*3) (.string r.host)).set (k*3+1) (.bool r.up)).set (k*3+2) v=flat (rs.set k r) (vs.set k v)
 |[],_,_,_,_,_,h=>absurd h (by simp)
 |_::_,[],_,_,_,h,_=>by cases h
 |r::rs,v::vs,0,r',v',_,_=>by simp [flat]
 |r::rs,v::vs,k+1,r',v',h,hk=>by
   rw [show (k+1)*3=k*3+1+1+1 by omega]
   simp only [flat,List.set_cons_succ]
   rw [←flat_set rs vs k r' v' (by simpa using h) (by simpa using hk)]
structure zdx (w:World) (B mp fall rise:Nat) (rs:List Rt) (sv:Value) (vs:List Value):Prop where
 blk:Blk w mp 96 #[.int .i64 (fall:Int),.int .i64 (rise:Int),sv]
 own:w.ownsRow B 99 3 sv rs.length (flat rs vs)
 len:vs.length=rs.length
 at_:∀(i:Nat) (v:Value) (r:Rt),vs[i]? =some v→rs[i]? =some r→w.ownsRow B 4 1 v r.looks.length (zdH r.looks)
 apart:∀(i j:Nat) (vi vj:Value) (g:Nat),vs[i]? =some vi→vs[j]? =some vj→i≠j→vi.ownBlock=some g→vj.ownBlock≠some g
 base:B≤mp
section
variable {w w':World} {B mp fall rise:Nat} {rs:List Rt} {sv:Value} {vs:List Value}
theorem zdx.below (h:zdx w B mp fall rise rs sv vs) (hb:Below w.heap.size w w'):zdx w' B mp fall rise rs sv vs:=
 ⟨h.blk.below hb h.blk.lt,own_below h.own hb,h.len,fun i v r h1 h2=>own_below (h.at_ i v r h1 h2) hb,h.apart,h.base⟩
theorem zdx.row (h:zdx w B mp fall rise rs sv vs) {k g cap:Nat} (hk:k<rs.length) (hsv:sv= .slice (some ⟨g,0,none⟩) rs.length cap):
 w.cell? ⟨g,k*3,none⟩=some (.string rs[k].host)∧w.cell? ⟨g,k*3+1,none⟩=some (.bool rs[k].up)∧w.cell? ⟨g,k*3+2,none⟩=some (vs[k]'(by rw [h.len];exact hk)):=by
 have hv:k<vs.length:=by rw [h.len];exact hk
 obtain ⟨a,b,c⟩:=flat_at rs vs k rs[k] vs[k] (List.getElem?_eq_getElem hk) (List.getElem?_eq_getElem hv)
 have ho:=h.own
 rw [hsv] at ho
 exact ⟨(ho.cellAt (k*3) (by omega)).trans a,(ho.cellAt (k*3+1) (by omega)).trans b,(ho.cellAt (k*3+2) (by omega)).trans c⟩
theorem zdx.form (h:zdx w B mp fall rise rs sv vs):∃A cap,sv= .slice A rs.length cap∧rs.length≤cap∧∀k,k<rs.length→∃g,A=some ⟨g,0,none⟩:=by
 obtain ⟨A,cap,hsv,_,hc,_⟩:=zai h.own
 refine ⟨A,cap,hsv,hc,fun k hk=> ?_⟩
 obtain ⟨g,cap',hsv',_⟩:=h.own.form (by omega)
 rw [hsv] at hsv'
 injection hsv' with hA
 exact ⟨g,hA⟩
end
def zbW (rs:List Rt):List ByteArray:=rs.map (·.host)
theorem zcO (rs:List Rt):(zbW rs).length=rs.length:=by simp [zbW]
theorem rhosts_get {rs:List Rt} {k:Nat} (hk:k<rs.length):(zbW rs)[k]'(by rw [zcO];exact hk)=rs[k].host:=by simp [zbW]
set_option maxRecDepth 100000 in
theorem refFind {B mp fall rise:Nat} {rs:List Rt} {sv:Value} {vs:List Value} (x:ByteArray) (w:World) (h:zdx w B mp fall rise rs sv vs) (hl:rs.length≤1000):
 Calls Tryz.prog 46 #[ptr mp,.string x] w (zd7 (zbW rs) x w):=by
 obtain ⟨A,cap,hsv,hcap,hA⟩:=h.form
 have hc2:w.cell? ⟨mp,2,none⟩=some (.slice A rs.length cap):=by rw [←hsv];exact h.blk.cell 2
 have HH:=Lib.hid h
 have HSV:=Lib.hid hsv
 have HA:=Lib.hid hA
 have HL:=zcO rs
 have HLL:=Lib.hid HL
 clear h hsv hA HL
 unfold ptr
 go_enter Tryz.func46,Tryz.ntmps46
 go_wp2_with fail
 go_loop [4,5] (fun _ iv=>∃k:Nat,k≤rs.length∧iv= .int .i64 (k:Int)∧Hid (∀t∈(zbW rs).take k,x≠t)) (fun _ iv=>rs.length- (intOf iv).toNat)
 case atStart=>exact ⟨0,Nat.zero_le _,rfl,Lib.hid (by simp)⟩
 case round=>
  obtain ⟨k,hk,rfl,ht⟩:=hrel
  by_cases hlt:k<rs.length
  ·obtain ⟨g,rfl⟩:=HA.out k hlt
   obtain ⟨a,_,_⟩:=HH.out.row hlt HSV.out
   have hlt2:(k:Int)<rs.length:=by omega
   have hlr:k<(zbW rs).length:=by rw [HLL.out];exact hlt
   have hge:=rhosts_get hlt
   by_cases he:x=rs[k].host
   ·have hB:(rs[k].host.toList==x.toList)=true:=by rw [str_eq];simpa using he.symm
    have HE:Hid (x=(zbW rs)[k]):=Lib.hid (by rw [hge];exact he)
    clear he hge
    go_wp2
    go_ret
    exact ⟨by rw [idx_hit hlr ht.out HE.out];rfl,rfl⟩
   ·have hB:(rs[k].host.toList==x.toList)=false:=by rw [str_eq];simpa using (fun e=>he e.symm)
    have HE:Hid (x≠(zbW rs)[k]):=Lib.hid (by rw [hge];exact he)
    clear he hge
    go_wp2
    go_round
    case rel=>exact ⟨k+1,by omega,by go_num,zf8 hlr ht HE.out⟩
    case measure=>simp [intOf];omega
  ·have hge:(rs.length:Int)≤k:=by omega
   go_wp2
   go_ret
   exact ⟨by rw [zbV (all_miss (by rw [HLL.out];omega) ht)];rfl,rfl⟩
def rUp (rs:List Rt) (x:ByteArray):Bool:=match idx (zbW rs) x with
 | .ofNat k=>match rs[k]? with
   |some r=>r.up
   |none=>false
 | .negSucc _=>false
theorem refIsUp {B mp fall rise:Nat} {rs:List Rt} {sv:Value} {vs:List Value} (x:ByteArray) (w:World) (h:zdx w B mp fall rise rs sv vs) (hl:rs.length≤1000):
 Calls Tryz.prog 39 #[ptr mp,.string x] w fun e w'=>e= .returned (.bool (rUp rs x))∧w=w':=by
 have HF:=Lib.hid (refFind x w h hl)
 unfold zd7 at HF
 by_cases hm:x∈zbW rs
 ·obtain ⟨k,hk,hi,_⟩:=zc4 hm
  rw [zcO] at hk
  have hU:rUp rs x=rs[k].up:=by unfold rUp;rw [hi];simp [hk]
  rw [hU]
  rw [hi] at HF
  obtain ⟨A,cap,hsv,hcap,hA⟩:=h.form
  obtain ⟨g,rfl⟩:=hA k hk
  obtain ⟨a,b,c⟩:=h.row hk hsv
  have hc2:w.cell? ⟨mp,2,none⟩=some (.slice (some ⟨g,0,none⟩) rs.length cap):=by rw [←hsv];exact h.blk.cell 2
  have hk2:(k:Int)<rs.length:=by omega
  clear a c
  clear h hU hi hsv hA
  unfold ptr at HF ⊢
  go_enter Tryz.func39,Tryz.ntmps39
  go_wp2_with (go_at_call 46;refine HF.out.mono ?_;rintro e w1 ⟨rfl,rfl⟩)
  go_ret
  exact ⟨rfl,rfl⟩
 ·have hi:idx (zbW rs) x= -1:=zbV fun t ht e=>hm (by rw [e];exact ht)
  have hU:rUp rs x=false:=by unfold rUp;rw [hi];rfl
  rw [hU]
  rw [hi] at HF
  clear h hU hi
  unfold ptr at HF ⊢
  go_enter Tryz.func39,Tryz.ntmps39
  go_wp2_with (go_at_call 46;refine HF.out.mono ?_;rintro e w1 ⟨rfl,rfl⟩)
  go_ret
  exact ⟨rfl,rfl⟩
def rups (rs:List Rt):List ByteArray:=(rs.filter fun s=>s.up).map (·.host)
theorem rups_succ {st:List Rt} {k:Nat} (hk:k<st.length):rups (st.take (k+1))=if st[k].up then rups (st.take k)++[st[k].host] else rups (st.take k):=by
 unfold rups
 rw [List.take_succ_eq_append_getElem hk,List.filter_append,List.map_append]
 cases h:st[k].up<;>simp [h]
theorem rups_le (st:List Rt) (k:Nat):(rups (st.take k)).length≤st.length:=by
 unfold rups
 rw [List.length_map]
 exact Nat.le_trans (List.length_filter_le _ _) (by rw [List.length_take];omega)
set_option maxRecDepth 100000 in
theorem refUps {B mp fall rise:Nat} {rs:List Rt} {sv:Value} {vs:List Value} (w:World) (h:zdx w B mp fall rise rs sv vs) (hl:rs.length≤100):
 Calls Tryz.prog 25 #[ptr mp] w (zaL (rups rs) w):=by
 obtain ⟨A,cap,hsv,hcap,hA⟩:=h.form
 have HH:=Lib.hid h
 have HSV:=Lib.hid hsv
 have HA:=Lib.hid hA
 have hc2:∀W,Below w.heap.size w W→W.cell? ⟨mp,2,none⟩=some (.slice A rs.length cap):=fun W hW=>by rw [←HSV.out];exact (h.below hW).blk.cell 2
 have HC2:=Lib.hid hc2
 have c2:=hc2 w (Below.refl _ _)
 clear h hsv hA hc2
 unfold ptr
 obtain ⟨i0,hi,hz0,hz1,hz2⟩:=info_parts zb8
 go_enter Tryz.func25,Tryz.ntmps25
 go_wp2_with fail
 go_loopw [3,4] (fun v iv wr=>∃k:Nat,k≤rs.length∧iv= .int .i64 (k:Int)∧wr.ownsRow w.heap.size 9 1 v (rups (rs.take k)).length (zak (rups (rs.take k)))∧Below w.heap.size w wr) (fun _ iv _=>rs.length- (intOf iv).toNat)
 case atStart=>exact ⟨0,Nat.zero_le _,rfl,⟨rfl,.inl ⟨rfl,rfl⟩⟩,Below.refl _ _⟩
 case round=>
  obtain ⟨k,hk,rfl,hown,hb⟩:=hrel
  have c2r:=HC2.out wr hb
  clear c2
  by_cases hlt:k<rs.length
  ·obtain ⟨g,hg⟩:=HA.out k hlt
   subst hg
   obtain ⟨a,b,c⟩:=(HH.out.below hb).row hlt HSV.out
   clear c
   have hlt2:(k:Int)<rs.length:=by omega
   have hup:=rups_le rs k
   have HS:=Lib.hid (rups_succ hlt)
   generalize hst:rs[k]=s at*
   have HST:=Lib.hid hst
   clear hst
   obtain ⟨host,up,looks⟩:=s
   dsimp only at*
   cases up with
   |false=>
    go_wp2
    go_roundw
    case rel=>exact ⟨k+1,by omega,by go_num,by rw [HS.out];exact hown,hb⟩
    case measure=>simp [intOf];omega
   |true=>
    go_wp2_with (at_builtin
                 refine wpList_append_own _ rfl _ _ 24 rfl w.heap.size 9 i0 (.string ⟨#[]⟩) 1 16 Tryz.underlying24 hi hz0 hz1 hz2 rfl (by decide) _ _ _ rfl (hown.alloc _) ⟨wr.heap.size,0,none⟩ 1 1 [.string host] rfl rfl (cell_one_new _ _ _) (by simp [Value.oneCell']) (by simp only [maxLen];omega) (by omega) (zbi hb) ?_
                 intro v' w3 hown3 hgrow _)
    go_roundw
    case rel=>
     have e:zak (rups (List.take k rs)++[host])=zak (rups (List.take k rs))++[.string host]:=by simp [zak]
     exact ⟨k+1,by omega,by go_num,by rw [HS.out];simp only [if_true];rw [e,List.length_append];exact hown3,zbg hb hown hgrow⟩
    case measure=>simp [intOf];omega
  ·have hge:(rs.length:Int)≤k:=by omega
   have hfin:Hid (rs.take k=rs):=Lib.hid (List.take_of_length_le (by omega))
   go_wp2
   go_ret
   rw [hfin.out] at hown
   exact zdp hown hb
end Go.Proofs.YthkfhfldoniolaaGreatDoor
namespace Go.Proofs.YthkfhfldoniolaaGreatDoor
open Go.RowKit
theorem info_host:(Tryz.prog.info? 99).map (fun i=>(i.zero,i.size,i.bytes))=some (some (.agg #[.string ⟨#[]⟩,.bool false,.slice none 0 0]),3,48):=by kernel_rfl
abbrev ze5:Value:= .slice none 0 0
section
variable {w w1:World} {B mp fall rise:Nat} {rs:List Rt} {sv:Value} {vs:List Value}
theorem zdx.withL {rs':List Rt} {v:Value} {vs':List Value} (h:zdx w B mp fall rise rs sv vs) (hk:zaA B [99] w w1) (ho:w1.ownsRow B 99 3 v rs'.length (flat rs' vs')) (hl:vs'.length=rs'.length)
 (hat:∀(i:Nat) (v:Value) (r:Rt),vs'[i]? =some v→rs'[i]? =some r→(v=ze5∧r.looks=[])∨∃j:Nat,vs[j]? =some v∧rs[j]? =some r)
 (hap:∀(i j:Nat) (vi vj:Value) (g:Nat),vs'[i]? =some vi→vs'[j]? =some vj→i≠j→vi.ownBlock=some g→vj.ownBlock≠some g):
 zdx (w1.setCell ⟨mp,2,none⟩ v) B mp fall rise rs' v vs'∧zaA B [96,99,4] w (w1.setCell ⟨mp,2,none⟩ v):=by
 have hb1:Blk w1 mp 96 _:=hk.blk h.blk (by decide)
 have hk2:zaA B [96] w1 (w1.setCell ⟨mp,2,none⟩ v):=(zaA.refl _ _ _).setCell hb1 (by simp) h.base v
 have hk3:zaA B [96,99,4] w (w1.setCell ⟨mp,2,none⟩ v):=(hk.more (by simp)).trans (hk2.more (by simp))
 refine ⟨⟨hb1.zbk 2 v,hk2.own ho (by decide),hl,fun i v' r h1 h2=> ?_,hap,h.base⟩,hk3⟩
 rcases hat i v' r h1 h2 with ⟨rfl,hr⟩|⟨j,h3,h4⟩
 ·rw [hr];exact ⟨rfl,.inl ⟨rfl,rfl⟩⟩
 ·exact hk2.own (hk.own (h.at_ j v' r h3 h4) (by decide)) (by decide)
theorem zdx.push {v:Value} {r:Rt} {o:Obj} (h:zdx w B mp fall rise rs sv vs) (hr:r.looks=[]) (hB:B≤w.heap.size) (hg:(w.alloc o).grownBy w1 sv.ownBlock)
 (ho:w1.ownsRow B 99 3 v (rs.length+1) (flat rs vs++[.string r.host,.bool r.up,ze5])):
 zdx (w1.setCell ⟨mp,2,none⟩ v) B mp fall rise (rs++[r]) v (vs++[ze5])∧zaA B [96,99,4] w (w1.setCell ⟨mp,2,none⟩ v):=by
 have hk:zaA B [99] w w1:=((zaA.alloc0 hB o).more (by simp)).trans (zaA.of_app (h.own.alloc o) hg (by simp;omega))
 have hlast:∀(i:Nat) (u:Value),(vs++[ze5])[i]? =some u→vs[i]? =some u∨(u=ze5∧i=vs.length):=by
  intro i u hu
  by_cases hi:i<vs.length
  ·rw [List.getElem?_append_left hi] at hu;exact .inl hu
  ·rw [List.getElem?_append_right (by omega)] at hu
   have hi0:i-vs.length=0:=by
    rcases Nat.eq_zero_or_pos (i-vs.length) with h0|h0
    ·exact h0
    ·rw [List.getElem?_eq_none (by simp;omega)] at hu;cases hu
   rw [hi0] at hu
   exact .inr ⟨(Option.some.inj hu).symm,by omega⟩
 refine h.withL hk (by rw [flat_append _ _ _ _ h.len,List.length_append];exact ho) (by simp [h.len]) (fun i u r' h1 h2=> ?_) (fun i j vi vj g h1 h2 hne hg1 hg2=> ?_)
 ·rcases hlast i u h1 with h1'|⟨rfl,rfl⟩
  ·have hi:i<vs.length:=(List.getElem?_eq_some_iff.1 h1').1
   rw [List.getElem?_append_left (by rw [←h.len];exact hi)] at h2
   exact .inr ⟨i,h1',h2⟩
  ·rw [h.len,List.getElem?_append_right (Nat.le_refl _)] at h2
   simp at h2
   rw [←h2]
   exact .inl ⟨rfl,hr⟩
 ·rcases hlast i vi h1 with h1'|⟨rfl,_⟩
  ·rcases hlast j vj h2 with h2'|⟨rfl,_⟩
   ·exact h.apart i j vi vj g h1' h2' hne hg1 hg2
   ·simp [Value.ownBlock] at hg2
  ·simp [Value.ownBlock] at hg1
end
end Go.Proofs.YthkfhfldoniolaaGreatDoor
namespace Go.Proofs.YthkfhfldoniolaaGreatDoor
open Go.RowKit
def hostObj (r:Rt):Obj:= .cells #[.string r.host,.bool r.up,ze5] 99
theorem host_cell (w:World) (r:Rt):∀(j:Nat) (u:Value),[Value.string r.host,.bool r.up,ze5][j]? =some u→(w.alloc (hostObj r)).cell? ((⟨w.heap.size,0,none⟩:Addr).add j)=some u:=by
 intro j u hu
 have hB:=Blk.new w 99 #[.string r.host,.bool r.up,ze5]
 have e:((⟨w.heap.size,0,none⟩:Addr).add j)=⟨w.heap.size,j,none⟩:=by
  by_cases h0:j=0
  ·subst h0;rfl
  ·simp [Addr.add,h0]
 rw [e]
 refine (hB.cell j).trans ?_
 simpa using hu
end Go.Proofs.YthkfhfldoniolaaGreatDoor
namespace Go.Proofs.YthkfhfldoniolaaGreatDoor
open Go.RowKit
def zdi (l:List ByteArray):List Rt:=l.map fun s=>⟨s,true,[]⟩
theorem rfresh_take {l:List ByteArray} {k:Nat} (hk:k<l.length):zdi (l.take (k+1))=zdi (l.take k)++[⟨l[k],true,[]⟩]:=by
 unfold zdi;rw [List.take_succ_eq_append_getElem hk,List.map_append];rfl
theorem rfresh_length (l:List ByteArray) (k:Nat) (hk:k≤l.length):(zdi (l.take k)).length=k:=by simp [zdi];omega
def NewRef (l:List ByteArray) (fall rise:Nat) (w:World) (e:Ending) (w':World):Prop:=
 ∃mp sv vs,e= .returned (ptr mp)∧zdx w' w.heap.size mp fall rise (zdi l) sv vs∧Below w.heap.size w w'
theorem grown_undrew {a w:World} {row:Option Nat} (h:a.drew.grownBy w row):a.grownBy w row:=⟨h.os,h.tape,h.output,h.size,h.block⟩
theorem zdx.push_drew {w w1:World} {B mp fall rise:Nat} {rs:List Rt} {sv v:Value} {vs:List Value} {r:Rt} {o:Obj} (h:zdx w B mp fall rise rs sv vs) (hr:r.looks=[]) (hB:B≤w.heap.size) (hg:(w.alloc o).drew.grownBy w1 sv.ownBlock) {n:Nat} (hn:Hid (rs.length=n))
 (ho:w1.ownsRow B 99 3 v (n+1) (flat rs vs++[.string r.host,.bool r.up,ze5])):
 Hid (zdx (w1.setCell ⟨mp,2,none⟩ v) B mp fall rise (rs++[r]) v (vs++[ze5])∧zaA B [96,99,4] w (w1.setCell ⟨mp,2,none⟩ v))∧
  w1.cell? ⟨mp,2,none⟩=some sv∧w1.frozen? ⟨mp,2,none⟩=false:=by
 have hg2:=grown_undrew hg
 have hb3:Blk w1 mp 96 _:=(((zaA.alloc0 hB o).more (by simp)).trans (zaA.of_app (h.own.alloc o) hg2 (by simp;omega)):zaA B [99] w w1).blk h.blk (by decide)
 exact ⟨Lib.hid (h.push hr hB hg2 (by rw [hn.out];exact ho)),hb3.cell 2,hb3.frozen 2⟩
set_option maxRecDepth 100000 in
theorem refNew (A:Option Addr) (c B:Nat) (l:List ByteArray) (fall rise:Nat) (w:World) (hr:Reads w B 1 A l.length (zak l)) (hB:B≤w.heap.size) (hl:l.length≤12):
 Calls Tryz.prog 36 #[.slice A l.length c,.int .i64 (fall:Int),.int .i64 (rise:Int)] w (NewRef l fall rise w):=by
 obtain ⟨i0,hi0,hz0,hz1,hz2⟩:=info_parts info_host
 go_enter Tryz.func36,Tryz.ntmps36
 go_wp2_with fail
 go_loopw [8] (fun iv wr=>∃(k:Nat) (sv:Value) (vs:List Value),k≤l.length∧iv= .int .i64 (k:Int)∧zdx wr w.heap.size w.heap.size fall rise (zdi (l.take k)) sv vs∧Below w.heap.size w wr) (fun iv _=>l.length- (intOf iv).toNat)
 case atStart=>exact ⟨0,ze5,[],Nat.zero_le _,rfl,⟨Blk.new _ _ _,⟨rfl,.inl ⟨rfl,rfl⟩⟩,rfl,fun i p s h=>by simp at h,fun i j vi vj g h=>by simp at h,Nat.le_refl _⟩,(Below.refl _ _).alloc (Nat.le_refl _) _⟩
 case round=>
  obtain ⟨k,sv,vs,hk,rfl,hH,hb⟩:=hrel
  by_cases hlt:k<l.length
  ·have hrr:Reads wr B 1 A l.length (zak l):=hr.keep fun p hp=>hb.cell (by omega)
   obtain ⟨ad,rfl,hc⟩:=zcq hrr hlt
   have hlt2:(k:Int)<l.length:=by omega
   have c2:wr.cell? ⟨w.heap.size,2,none⟩=some sv:=hH.blk.cell 2
   have hfl:=rfresh_length l k hk
   have hown:=hH.own
   rw [hfl] at hown
   obtain ⟨Av,cv,hsv,_⟩:=zai hown
   subst hsv
   have hml:w.heap.size<wr.heap.size:=hH.blk.lt
   have hmn:¬w.heap.size=wr.heap.size:=by omega
   have HH:=Lib.hid hH
   have HK:=Lib.hid hfl
   have HO:=Lib.hid hown
   clear hH hfl hown
   have HW:Hid (((wr.alloc (.cells #[.string l[k],.bool true,ze5] 99)).drew).ownsRow w.heap.size 99 3 (.slice Av k cv) k (flat (zdi (l.take k)) vs)):=Lib.hid (HO.out.alloc _)
   have HR2:Hid (Reads ((wr.alloc (.cells #[.string l[k],.bool true,ze5] 99)).drew) (wr.heap.size+1) 3 (some ⟨wr.heap.size,0,none⟩) 1 [.string l[k],.bool true,ze5]):=Lib.hid ⟨rfl,fun _=>⟨_,rfl,by simp,host_cell wr ⟨l[k],true,[]⟩⟩⟩
   have hbw:w.heap.size≤((wr.alloc (.cells #[.string l[k],.bool true,ze5] 99)).drew).heap.size:=by have:=hb.size;simp;omega
   have HBW:=Lib.hid hbw
   clear hbw
   go_wp2_with fail
   go_region_law ((refine zbh _ rfl (.tmp 23) (.tmp 29) _ rfl w.heap.size 99 i0 _ 3 48 Tryz.underlying94 hi0 hz0 hz1 hz2 rfl (by omega) (.slice Av k cv) k _ (by simp [Act.eval]) HW.out (wr.heap.size+1) (some ⟨wr.heap.size,0,none⟩) 1 1 _ (by simp [Act.eval]) HR2.out (by simp [Value.oneCell']) (by simp only [maxLen];omega) (by omega) HBW.out ?_
                   intro v' w3 hown3 hgrow _
                   obtain ⟨HP,cc,cf⟩:=HH.out.push_drew (r:=⟨l[k],true,[]⟩) rfl hb.size hgrow HK hown3
                   obtain ⟨A3,cap3,hv3,_⟩:=zai hown3
                   subst hv3))
   all_goals
    go_wp2
    go_roundw
    case rel=>exact ⟨k+1,_,_,by omega,by go_num,by rw [rfresh_take hlt];exact HP.out.1,hb.trans (HP.out.2.1)⟩
    case measure=>simp [intOf];omega
  ·have hge:(l.length:Int)≤k:=by omega
   have HH:=Lib.hid hH
   clear hH
   go_wp2
   go_ret
   have hfin:=HH.out
   rw [List.take_of_length_le (by omega)] at hfin
   exact ⟨w.heap.size,sv,vs,rfl,hfin,hb⟩
end Go.Proofs.YthkfhfldoniolaaGreatDoor
namespace Go.Proofs.YthkfhfldoniolaaGreatDoor
open Go.RowKit
def tr (up:Bool) (l:List Bool):Nat:=(l.reverse.takeWhile fun b=>b !=up).length
theorem tr_le (up:Bool) (l:List Bool):tr up l≤l.length:=by
 unfold tr
 have:=(List.takeWhile_sublist (fun b=>b !=up) (l:=l.reverse)).length_le
 simpa using this
theorem tr_snoc (up well:Bool) (l:List Bool):tr up (l++[well])=if well=up then 0 else tr up l+1:=by
 unfold tr
 rw [List.reverse_append,List.reverse_singleton,List.singleton_append,List.takeWhile_cons]
 by_cases h:well=up
 ·simp [h]
 ·have:(well !=up)=true:=by simpa using h
  simp [this,h]
theorem zfQ (p:Bool→Bool):∀(l:List Bool) (k:Nat),k≤(l.takeWhile p).length→∀x,l[k]? =some x→(p x=true→k+1≤(l.takeWhile p).length)∧(p x=false→(l.takeWhile p).length=k)
 |[],k,_,x,h=>by simp at h
 |a::l,0,_,x,h=>by
   simp at h;subst h
   rw [List.takeWhile_cons]
   constructor<;>intro hp<;>simp [hp]
 |a::l,k+1,hk,x,h=>by
   rw [List.takeWhile_cons] at hk ⊢
   cases hp:p a with
   |false=>rw [hp] at hk;simp at hk
   |true=>
    rw [hp] at hk
    simp only [if_true,List.length_cons] at hk ⊢
    have:=zfQ p l k (by omega) x (by simpa using h)
    exact ⟨fun h=>by have:=this.1 h;omega,fun h=>by have:=this.2 h;omega⟩
theorem tr_step {up:Bool} {l:List Bool} {k:Nat} (hk:k≤tr up l) (hl:k<l.length):∃b,l[l.length-1-k]? =some b∧(b≠up→k+1≤tr up l)∧(b=up→tr up l=k):=by
 have hg:l[l.length-1-k]? =some (l[l.length-1-k]'(by omega)):=List.getElem?_eq_getElem (by omega)
 refine ⟨_,hg, ?_⟩
 have:=zfQ (fun b=>b !=up) l.reverse k hk (l[l.length-1-k]'(by omega)) (by rw [List.getElem?_reverse hl];exact hg)
 exact ⟨fun h=>this.1 (by simpa using h),fun h=>this.2 (by simpa using h)⟩
theorem tr_end {up:Bool} {l:List Bool} {k:Nat} (hk:k≤tr up l) (hl:l.length≤k):tr up l=k:=by have:=tr_le up l;omega
def zcR (fall rise:Nat) (r:Rt) (well:Bool):Rt×Bool:=
 if (if r.up then fall else rise)≤tr r.up (r.looks++[well]) then (⟨r.host,!r.up,[]⟩,true) else (⟨r.host,r.up,r.looks++[well]⟩,false)
theorem info_bool:(Tryz.prog.info? 4).map (fun i=>(i.zero,i.size,i.bytes))=some (some (.bool false),1,1):=by kernel_rfl
def vbs (vs:List Value):List Nat:=vs.flatMap fun v=>v.ownBlock.toList
def hbs (mp:Nat) (sv:Value) (vs:List Value):List Nat:=mp::(sv.ownBlock.toList++vbs vs)
def zdE (B mp fall rise:Nat) (rs:List Rt) (k:Nat) (r:Rt×Bool) (sv0:Value) (vs0:List Value) (w:World) (e:Ending) (w':World):Prop:=
 e= .returned (.tuple #[.bool r.2,.int .i64 0])∧(∃sv vs,zdx w' B mp fall rise (rs.set k r.1) sv vs∧∀b∈hbs mp sv vs,b∈hbs mp sv0 vs0∨w.heap.size≤b)∧zaA B [96,99,4] w w'∧zam (hbs mp sv0 vs0) w w'
theorem refLook_none {B mp fall rise:Nat} {rs:List Rt} {sv:Value} {vs:List Value} (x:ByteArray) (well:Bool) (w:World) (h:zdx w B mp fall rise rs sv vs) (hl:rs.length≤1000) (hm:x∉zbW rs):
 Calls Tryz.prog 44 #[ptr mp,.string x,.bool well] w fun e w'=>e= .returned (.tuple #[.bool false,.int .i64 5])∧w=w':=by
 have HF:=Lib.hid (refFind x w h hl)
 have hi:idx (zbW rs) x= -1:=zbV fun t ht e=>hm (by rw [e];exact ht)
 unfold zd7 at HF
 rw [hi] at HF
 clear h hm hi
 unfold ptr at HF ⊢
 go_enter Tryz.func44,Tryz.ntmps44
 go_wp2_with fail
 refine HF.out.mono ?_
 rintro e w1 ⟨rfl,rfl⟩
 go_wp2
 go_ret2
 exact ⟨rfl,rfl⟩
structure XAt (w:World) (B bx:Nat) (host:ByteArray) (up:Bool) (v:Value) (l:List Bool):Prop where
 blk:Blk w bx 99 #[.string host,.bool up,v]
 own:w.ownsRow B 4 1 v l.length (zdH l)
theorem XAt.drewN {w:World} {B bx:Nat} {host:ByteArray} {up:Bool} {v:Value} {l:List Bool} (h:XAt w B bx host up v l) (m:Nat):XAt (w.drewN m) B bx host up v l:=⟨h.blk,h.own⟩
theorem zdx.lay {w w1:World} {B mp fall rise k g cap:Nat} {rs:List Rt} {vs:List Value} {r':Rt} {v':Value} (h:zdx w B mp fall rise rs (.slice (some ⟨g,0,none⟩) rs.length cap) vs) (hk:k<rs.length)
 (hkeep:zaA B [4] w w1) (ho:w1.ownsRow B 4 1 v' r'.looks.length (zdH r'.looks))
 (hoth:∀(i:Nat) (vi:Value),i≠k→vs[i]? =some vi→(∀(r:Rt),rs[i]? =some r→w1.ownsRow B 4 1 vi r.looks.length (zdH r.looks))∧∀g',(vi.ownBlock=some g'→v'.ownBlock≠some g')∧(v'.ownBlock=some g'→vi.ownBlock≠some g')):
 zdx (((w1.setCell ⟨g,k*3,none⟩ (.string r'.host)).setCell ⟨g,k*3+1,none⟩ (.bool r'.up)).setCell ⟨g,k*3+2,none⟩ v') B mp fall rise (rs.set k r') (.slice (some ⟨g,0,none⟩) rs.length cap) (vs.set k v')∧
  zaA B [99,4] w (((w1.setCell ⟨g,k*3,none⟩ (.string r'.host)).setCell ⟨g,k*3+1,none⟩ (.bool r'.up)).setCell ⟨g,k*3+2,none⟩ v'):=by
 have hvk:k<vs.length:=by rw [h.len];exact hk
 have h1:=hkeep.own h.own (by decide)
 obtain ⟨s1,g1⟩:=h1.stored (k*3) (.string r'.host)
 obtain ⟨s2,g2⟩:=s1.stored (k*3+1) (.bool r'.up)
 obtain ⟨s3,g3⟩:=s2.stored (k*3+2) v'
 rw [flat_set _ _ _ _ _ h.len hk] at s3
 have hall:zaA B [99] w1 (((w1.setCell ⟨g,k*3,none⟩ (.string r'.host)).setCell ⟨g,k*3+1,none⟩ (.bool r'.up)).setCell ⟨g,k*3+2,none⟩ v'):=
  ((zaA.of_app h1 g1 (Nat.le_trans (Nat.le_of_lt (Nat.lt_of_le_of_lt (h1.lt g rfl).1 (h1.lt g rfl).2)) (Nat.le_refl _))).trans (zaA.of_app s1 g2 (Nat.le_of_lt (Nat.lt_of_le_of_lt (s1.lt g rfl).1 (s1.lt g rfl).2)))).trans (zaA.of_app s2 g3 (Nat.le_of_lt (Nat.lt_of_le_of_lt (s2.lt g rfl).1 (s2.lt g rfl).2)))
 refine ⟨⟨hall.blk (hkeep.blk h.blk (by decide)) (by decide),by rw [List.length_set];exact s3,by simp [h.len],fun i v r a b=> ?_,fun i j vi vj g' a b hne hg'=> ?_,h.base⟩,(hkeep.more (by simp)).trans (hall.more (by simp))⟩
 ·by_cases hik:i=k
  ·subst hik
   rw [List.getElem?_set_self hvk] at a
   rw [List.getElem?_set_self hk] at b
   cases a;cases b
   exact hall.own ho (by decide)
  ·rw [List.getElem?_set_ne (Ne.symm hik)] at a b
   exact hall.own ((hoth i v hik a).1 r b) (by decide)
 ·by_cases hik:i=k
  ·subst hik
   rw [List.getElem?_set_self hvk] at a
   cases a
   rw [List.getElem?_set_ne hne] at b
   exact ((hoth j vj (Ne.symm hne) b).2 g').2 hg'
  ·rw [List.getElem?_set_ne (Ne.symm hik)] at a
   by_cases hjk:j=k
   ·subst hjk
    rw [List.getElem?_set_self hvk] at b
    cases b
    exact ((hoth i vi hik a).2 g').1 hg'
   ·rw [List.getElem?_set_ne (Ne.symm hjk)] at b
    exact h.apart i j vi vj g' a b hne hg'
end Go.Proofs.YthkfhfldoniolaaGreatDoor
namespace Go.Proofs.YthkfhfldoniolaaGreatDoor
open Go.RowKit
theorem zaA.setNew {B:Nat} {ts:List TypeId} {w w1:World} {g i:Nat} (h:zaA B ts w w1) (hg:w.heap.size≤g) (hB:B≤w.heap.size) (u:Value):zaA B ts w (w1.setCell ⟨g,i,none⟩ u):=
 ⟨h.1.setCell (p:=⟨g,i,none⟩) (Nat.le_trans hB hg) u,fun g' o ho hoff=>(Below.heap_setCell w1 ⟨g,i,none⟩ u g' (by have:=lt_of_heap ho;intro e;dsimp only at e;omega)).trans (h.2 g' o ho hoff)⟩
structure Mid (w W:World) (B k bx:Nat) (rs:List Rt) (vs:List Value) (host:ByteArray) (up:Bool) (v':Value) (l':List Bool):Prop where
 x:XAt W B bx host up v' l'
 keep:zaA B [4] w W
 new:w.heap.size≤bx
 oth:∀(i:Nat) (vi:Value),i≠k→vs[i]? =some vi→(∀(r:Rt),rs[i]? =some r→W.ownsRow B 4 1 vi r.looks.length (zdH r.looks))∧∀g',(vi.ownBlock=some g'→v'.ownBlock≠some g')∧(v'.ownBlock=some g'→vi.ownBlock≠some g')
 tn:zam (vbs vs) w W
 nb:∀b∈v'.ownBlock.toList,b∈vbs vs∨w.heap.size≤b
section
variable {w W:World} {B mp fall rise k bx g cap:Nat} {rs:List Rt} {vs:List Value} {host:ByteArray} {up:Bool} {v':Value} {l':List Bool}
theorem Mid.drewN (h:Mid w W B k bx rs vs host up v' l') (m:Nat):Mid w (W.drewN m) B k bx rs vs host up v' l':=⟨h.x.drewN m,h.keep.drewN m,h.new,h.oth,h.tn.drewN m,h.nb⟩
theorem Mid.cells (h:Mid w W B k bx rs vs host up v' l'):W.cell? ⟨bx,0,none⟩=some (.string host)∧W.cell? ⟨bx,1,none⟩=some (.bool up)∧W.cell? ⟨bx,2,none⟩=some v'∧W.frozen? ⟨bx,1,none⟩=false∧W.frozen? ⟨bx,2,none⟩=false:=
 ⟨h.x.blk.cell 0,h.x.blk.cell 1,h.x.blk.cell 2,h.x.blk.frozen 1,h.x.blk.frozen 2⟩
theorem Mid.keepR {sv:Value} (h:Mid w W B k bx rs vs host up v' l') (hR:zdx w B mp fall rise rs sv vs):W.ownsRow B 99 3 sv rs.length (flat rs vs):=h.keep.own hR.own (by decide)
theorem row_of {w:World} {B:Nat} {rs:List Rt} {vs:List Value} {sv:Value} (ho:w.ownsRow B 99 3 sv rs.length (flat rs vs)) (hl:vs.length=rs.length) {k g cap:Nat} (hk:k<rs.length) (hsv:sv= .slice (some ⟨g,0,none⟩) rs.length cap):
 w.cell? ⟨g,k*3,none⟩=some (.string rs[k].host)∧w.cell? ⟨g,k*3+1,none⟩=some (.bool rs[k].up)∧w.cell? ⟨g,k*3+2,none⟩=some (vs[k]'(by rw [hl];exact hk)):=by
 have hv:k<vs.length:=by rw [hl];exact hk
 obtain ⟨a,b,c⟩:=flat_at rs vs k rs[k] vs[k] (List.getElem?_eq_getElem hk) (List.getElem?_eq_getElem hv)
 rw [hsv] at ho
 exact ⟨(ho.cellAt (k*3) (by omega)).trans a,(ho.cellAt (k*3+1) (by omega)).trans b,(ho.cellAt (k*3+2) (by omega)).trans c⟩
theorem vbs_hbs {mp:Nat} {sv:Value} {vs:List Value}:∀b∈vbs vs,b∈hbs mp sv vs:=fun _ hb=>List.mem_cons_of_mem _ (List.mem_append.2 (.inr hb))
theorem set_hbs {mp k n g cap:Nat} {vs:List Value} {v':Value} (hv:∀b∈v'.ownBlock.toList,b∈vbs vs∨n≤b):∀b∈hbs mp (.slice (some ⟨g,0,none⟩) rs.length cap) (vs.set k v'),b∈hbs mp (.slice (some ⟨g,0,none⟩) rs.length cap) vs∨n≤b:=by
 intro b hb
 unfold hbs at hb ⊢
 rcases List.mem_cons.1 hb with rfl|hb
 ·exact .inl List.mem_cons_self
 ·rcases List.mem_append.1 hb with hb|hb
  ·exact .inl (List.mem_cons_of_mem _ (List.mem_append.2 (.inl hb)))
  ·unfold vbs at hb
   obtain ⟨u,hu,hbu⟩:=List.mem_flatMap.1 hb
   rcases List.mem_or_eq_of_mem_set hu with hu|rfl
   ·exact .inl (List.mem_cons_of_mem _ (List.mem_append.2 (.inr (List.mem_flatMap.2 ⟨u,hu,hbu⟩))))
   ·rcases hv b hbu with h|h
    ·exact .inl (vbs_hbs b h)
    ·exact .inr h
theorem g_hbs {mp g n cap:Nat} {vs:List Value}:g∈hbs mp (.slice (some ⟨g,0,none⟩) n cap) vs:=List.mem_cons_of_mem _ (List.mem_append.2 (.inl (by simp [Value.ownBlock])))
theorem Mid.fin0 (h:Mid w W B k bx rs vs host up v' l') (hR:zdx w B mp fall rise rs (.slice (some ⟨g,0,none⟩) rs.length cap) vs) (hk:k<rs.length):
 zdE B mp fall rise rs k (⟨host,up,l'⟩,false) (.slice (some ⟨g,0,none⟩) rs.length cap) vs w (.returned (.tuple #[.bool false,.int .i64 0])) (((W.setCell ⟨g,k*3,none⟩ (.string host)).setCell ⟨g,k*3+1,none⟩ (.bool up)).setCell ⟨g,k*3+2,none⟩ v'):=by
 obtain ⟨a,b⟩:=hR.lay (r':=⟨host,up,l'⟩) (v':=v') hk h.keep h.x.own h.oth
 exact ⟨rfl,⟨_,_,a,set_hbs h.nb⟩,b.more (by simp),(((h.tn.more vbs_hbs).setCell (p:=⟨g,k*3,none⟩) (.inl g_hbs) _).setCell (p:=⟨g,k*3+1,none⟩) (.inl g_hbs) _).setCell (p:=⟨g,k*3+2,none⟩) (.inl g_hbs) _⟩
theorem Mid.fin1 (h:Mid w W B k bx rs vs host up v' l') (hB:B≤w.heap.size) (hR:zdx w B mp fall rise rs (.slice (some ⟨g,0,none⟩) rs.length cap) vs) (hk:k<rs.length) (nu:Bool):
 zdE B mp fall rise rs k (⟨host,nu,[]⟩,true) (.slice (some ⟨g,0,none⟩) rs.length cap) vs w (.returned (.tuple #[.bool true,.int .i64 0])) (((((W.setCell ⟨bx,1,none⟩ (.bool nu)).setCell ⟨bx,2,none⟩ ze5).setCell ⟨g,k*3,none⟩ (.string host)).setCell ⟨g,k*3+1,none⟩ (.bool nu)).setCell ⟨g,k*3+2,none⟩ ze5):=by
 have hx1:Blk (W.setCell ⟨bx,1,none⟩ (.bool nu)) bx 99 _:=h.x.blk.zbk 1 _
 have kk:zaA bx [99] W ((W.setCell ⟨bx,1,none⟩ (.bool nu)).setCell ⟨bx,2,none⟩ ze5):=((zaA.refl _ _ _).setCell h.x.blk (by simp) (Nat.le_refl _) _).setCell hx1 (by simp) (Nat.le_refl _) _
 obtain ⟨a,b⟩:=hR.lay (r':=⟨host,nu,[]⟩) (v':=ze5) (w1:=(W.setCell ⟨bx,1,none⟩ (.bool nu)).setCell ⟨bx,2,none⟩ ze5) hk ((h.keep.setNew h.new hB _).setNew h.new hB _) ⟨rfl,.inl ⟨rfl,rfl⟩⟩ (fun i vi hi hv=>⟨fun r hr=>by
  have:=(h.oth i vi hi hv).1 r hr
  exact kk.own this (by decide),fun g'=>⟨fun _=>by simp [Value.ownBlock],fun e=>by simp [Value.ownBlock] at e⟩⟩)
 exact ⟨rfl,⟨_,_,a,set_hbs (fun b hb=>by simp [Value.ownBlock] at hb)⟩,b.more (by simp),(((((h.tn.more vbs_hbs).setCell (p:=⟨bx,1,none⟩) (.inr h.new) _).setCell (p:=⟨bx,2,none⟩) (.inr h.new) _).setCell (p:=⟨g,k*3,none⟩) (.inl g_hbs) _).setCell (p:=⟨g,k*3+1,none⟩) (.inl g_hbs) _).setCell (p:=⟨g,k*3+2,none⟩) (.inl g_hbs) _⟩
theorem zdE.drew {r:Rt×Bool} {e:Ending} {sv0:Value} {vs0:List Value} (h:zdE B mp fall rise rs k r sv0 vs0 w e W):zdE B mp fall rise rs k r sv0 vs0 w e W.drew:=by
 obtain ⟨he,⟨sv,vs,hR,hb⟩,hk,ht⟩:=h
 exact ⟨he,⟨sv,vs,hR.below (below_drewN (Below.refl _ _) 1),hb⟩,hk.drewN 1,ht.drewN 1⟩
theorem zdx.mid {w3:World} {r:Rt} {v:Value} {well:Bool} {o2:Obj} (hR:zdx w B mp fall rise rs (.slice (some ⟨g,0,none⟩) rs.length cap) vs) (hB:B≤w.heap.size) (hr:rs[k]? =some r) (hv:vs[k]? =some v)
 (hg:((w.alloc (.cells #[.string r.host,.bool r.up,v] 99)).alloc o2).grownBy w3 v.ownBlock) (ho:w3.ownsRow B 4 1 v' (r.looks.length+1) (zdH r.looks++[.bool well]))
 (hd:v'.ownBlock=v.ownBlock∨v'.ownBlock=some ((w.alloc (.cells #[.string r.host,.bool r.up,v] 99)).alloc o2).heap.size):
 Mid w (w3.setCell ⟨w.heap.size,2,none⟩ v') B k w.heap.size rs vs r.host r.up v' (r.looks++[well])∧w3.cell? ⟨w.heap.size,2,none⟩=some v∧w3.frozen? ⟨w.heap.size,2,none⟩=false∧w.heap.size<w3.heap.size:=by
 have hov:=hR.at_ k v r hv hr
 have hba:Below w.heap.size w ((w.alloc (.cells #[.string r.host,.bool r.up,v] 99)).alloc o2):=((Below.refl _ _).alloc (Nat.le_refl _) _).alloc (by simp) _
 have hob:=own_below hov hba
 have k1:zaA B [4] w w3:=(zaA.of_below hba hB).trans (zaA.of_app hob hg (Nat.le_trans hB hba.size))
 have hbx:Blk w3 w.heap.size 99 #[.string r.host,.bool r.up,v]:=by
  have h0:Blk ((w.alloc (.cells #[.string r.host,.bool r.up,v] 99)).alloc o2) w.heap.size 99 _:=(Blk.new w _ _).alloc _
  exact h0.grown hg (fun e=>zbe hob h0 (by decide) e.symm)
 have hkx:zaA B [99] w3 (w3.setCell ⟨w.heap.size,2,none⟩ v'):=(zaA.refl _ _ _).setCell hbx (by simp) hB _
 have e1:(r.looks++[well]).length=r.looks.length+1:=by simp
 have e2:zdH (r.looks++[well])=zdH r.looks++[.bool well]:=by simp [zdH]
 have hvin:∀b∈v.ownBlock.toList,b∈vbs vs:=fun b hb=>List.mem_flatMap.2 ⟨v,List.mem_of_getElem? hv,hb⟩
 have htn:zam (vbs vs) w (w3.setCell ⟨w.heap.size,2,none⟩ v'):=((zam.of_below hba:zam (vbs vs) w _).then (zam.zaE hg fun g' hg'=>hvin g' (by rw [hg'];simp))).setCell (p:=⟨w.heap.size,2,none⟩) (.inr (Nat.le_refl _)) _
 have hnb:∀b∈v'.ownBlock.toList,b∈vbs vs∨w.heap.size≤b:=fun b hb=>by
  rcases hd with hd|hd
  ·rw [hd] at hb;exact .inl (hvin b hb)
  ·rw [hd] at hb
   have:b=((w.alloc (.cells #[.string r.host,.bool r.up,v] 99)).alloc o2).heap.size:=by simpa using hb
   have h2:=hba.size
   exact .inr (by omega)
 refine ⟨⟨⟨hbx.zbk 2 _, ?_⟩,k1.setNew (Nat.le_refl _) hB _,Nat.le_refl _,fun i vi hi hvi=>⟨fun r' hr'=> ?_,fun g'=> ?_⟩,htn,hnb⟩,hbx.cell 2,hbx.frozen 2,hbx.lt⟩
 ·rw [e1,e2];exact hkx.own ho (by decide)
 ·have h1:=own_below (hR.at_ i vi r' hvi hr') hba
  refine hkx.own (h1.kept hg ?_) (by decide)
  cases hvo:vi.ownBlock with
  |none=>exact .inl rfl
  |some g1=>exact .inr (fun e=>hR.apart i k vi v g1 hvi hv hi hvo e.symm)
 ·have hil:i<rs.length:=by rw [←hR.len];exact (List.getElem?_eq_some_iff.1 hvi).1
  have hlt:=(hR.at_ i vi rs[i] hvi (List.getElem?_eq_getElem hil)).lt
  constructor
  ·intro h1 h2
   rcases hd with hd|hd
   ·rw [hd] at h2;exact hR.apart i k vi v g' hvi hv hi h1 h2
   ·rw [hd] at h2
    have:=(hlt g' h1).2
    have:=Option.some.inj h2
    simp at this;omega
  ·intro h1 h2
   rcases hd with hd|hd
   ·rw [hd] at h1;exact hR.apart k i v vi g' hv hvi (Ne.symm hi) h1 h2
   ·rw [hd] at h1
    have:=(hlt g' h2).2
    have:=Option.some.inj h1
    simp at this;omega
end
theorem look_cell (w:World) (o:Obj) (u:Value) (t:TypeId):∀(j:Nat) (x:Value),[u][j]? =some x→((w.alloc o).alloc (.cells #[u] t)).cell? ((⟨w.heap.size+1,0,none⟩:Addr).add j)=some x:=by
 intro j x hx
 have h0:j=0:=by
  rcases Nat.eq_zero_or_pos j with h|h
  ·exact h
  ·rw [List.getElem?_eq_none (by simp;omega)] at hx;cases hx
 subst h0
 have hB:=Blk.new (w.alloc o) t #[u]
 have e:(w.alloc o).heap.size=w.heap.size+1:=by simp
 rw [e] at hB
 exact (hB.cell 0).trans (by simpa using hx)
set_option maxRecDepth 100000 in
theorem refLook_found {B mp fall rise k:Nat} {rs:List Rt} {sv:Value} {vs:List Value} (x:ByteArray) (well:Bool) (w:World) (h:zdx w B mp fall rise rs sv vs) (hB:B≤w.heap.size) (hl:rs.length≤1000) (hi:idx (zbW rs) x=k) (hk:k<rs.length) (hlk:rs[k].looks.length≤1000):
 Calls Tryz.prog 44 #[ptr mp,.string x,.bool well] w (zdE B mp fall rise rs k (zcR fall rise rs[k] well) sv vs w):=by
 obtain ⟨A,cap,hsv,hcap,hA⟩:=h.form
 obtain ⟨g,rfl⟩:=hA k hk
 subst hsv
 have hc0:w.cell? ⟨mp,0,none⟩=some (.int .i64 (fall:Int)):=h.blk.cell 0
 have hc1:w.cell? ⟨mp,1,none⟩=some (.int .i64 (rise:Int)):=h.blk.cell 1
 have hc2:w.cell? ⟨mp,2,none⟩=some (.slice (some ⟨g,0,none⟩) rs.length cap):=h.blk.cell 2
 obtain ⟨a0,a1,a2⟩:=h.row hk rfl
 have HF:=Lib.hid (refFind x w h hl)
 unfold zd7 at HF
 rw [hi] at HF
 have hvk:k<vs.length:=by rw [h.len];exact hk
 have hgr:rs[k]? =some rs[k]:=List.getElem?_eq_getElem hk
 have hgv:vs[k]? =some vs[k]:=List.getElem?_eq_getElem hvk
 have hov:=h.at_ k _ _ hgv hgr
 obtain ⟨i0,hi0,hz0,hz1,hz2⟩:=info_parts info_bool
 have hkl:(k:Int)<rs.length:=by omega
 have hmpl:mp<w.heap.size:=h.blk.lt
 have HH:=Lib.hid h
 generalize hrr:rs[k]=r at*
 generalize hvv:vs[k]=v at*
 have HGR:=Lib.hid hgr
 have HGV:=Lib.hid hgv
 have HI:=Lib.hid hi
 have hgl:g<w.heap.size:=(h.own.lt g rfl).2
 obtain ⟨Av,cv,hv,_⟩:=zai hov
 subst hv
 obtain ⟨host,up,looks⟩:=r
 dsimp only at*
 clear h hi hA hrr hvv hgr hgv
 cases up with
 |false=>
  unfold ptr at HF ⊢
  go_enter Tryz.func44,Tryz.ntmps44
  go_wp2_with fail
  refine HF.out.mono ?_
  rintro e w1 ⟨rfl,rfl⟩
  go_wp2_with (at_builtin
               go_must (refine zac _ rfl (.tmp 26) (.tmp 28) _ rfl B 4 i0 (.bool false) 1 1 Tryz.underlying97 hi0 hz0 hz1 hz2 rfl (by decide) _ _ _ rfl ((hov.alloc _).alloc _) (w.heap.size+2) (some ⟨w.heap.size+1,0,none⟩) 1 1 [.bool well] rfl ⟨rfl,fun _=>⟨_,rfl,by simp,look_cell w _ _ _⟩⟩ (by simp [Value.oneCell']) (by simp only [maxLen];omega) (by omega) (by simp;omega) ?_)
               intro v' w3 hown3 hgrow hd
               obtain ⟨hmid,m1,m2,m3⟩:=HH.out.mid (well:=well) hB HGR.out HGV.out hgrow hown3 hd
               have HM:=Lib.hid hmid
               obtain ⟨g3,cap3,hv3,_⟩:=hown3.form (by omega)
               subst hv3
               clear hmid)
  have hlen:(looks++[well]).length=looks.length+1:=by simp
  have HT:Hid (zcR fall rise ⟨host,false,looks⟩ well=if (if false then fall else rise)≤tr false (looks++[well]) then (⟨host,!false,[]⟩,true) else (⟨host,false,looks++[well]⟩,false)):=Lib.hid rfl
  generalize w3.setCell ⟨w.heap.size,2,none⟩ (.slice (some ⟨g3,0,none⟩) (looks.length+1) cap3)=W at*
  generalize looks++[well]=l' at*
  have hlt':=tr_le false l'
  have HLEN:=Lib.hid hlen
  clear hlen hlt'
  go_loopw [10] (fun kv wr=>∃j m:Nat,j≤looks.length+1∧j≤tr false l'∧kv= .int .i64 (j:Int)∧wr=W.drewN m) (fun kv _=>looks.length+1- (intOf kv).toNat)
  case atStart=>exact ⟨0,0,by omega,by omega,rfl,rfl⟩
  case round=>
   obtain ⟨j,m,hj,hjt,rfl,rfl⟩:=hrel
   obtain ⟨x0,x1,x2,f1,f2⟩:=HM.out.cells
   by_cases hlt:j<looks.length+1
   ·obtain ⟨b,hb,hb1,hb2⟩:=tr_step hjt (by rw [HLEN.out];exact hlt)
    have hxo:=HM.out.x.own
    rw [HLEN.out] at hxo
    have y:=hxo.cellAt (l'.length-1-j) (by rw [HLEN.out];omega)
    have hyb:(zdH l')[l'.length-1-j]? =some (.bool b):=by simp [zdH,hb]
    rw [hyb,HLEN.out,show looks.length+1-1-j=looks.length-j by omega] at y
    have k1:(j:Int)<(looks.length:Int)+1:=by omega
    have k2:0≤(looks.length:Int) -j:=by omega
    have k3:(looks.length:Int) -j<(looks.length:Int)+1:=by omega
    have k4:((looks.length:Int) -j).toNat=looks.length-j:=by omega
    clear hb hyb hxo
    by_cases hbu:b=false
    ·have hn:=hb2 hbu
     subst hbu
     have HN:=Lib.hid hn
     clear hb1 hb2 hn
     obtain ⟨y0,y1,y2⟩:=row_of (HM.out.keepR HH.out) HH.out.len hk rfl
     have yb:=(HM.out.keep.blk HH.out.blk (by decide))
     have z0:=yb.cell 0
     have z1:=yb.cell 1
     have z2:=yb.cell 2
     have yf:=fun i=>(HM.out.keep.own HH.out.own (by decide)).frozenAt i
     have hgn:¬g=w.heap.size:=by omega
     clear yb
     by_cases ht:rise≤j
     ·have HL:Hid (zcR fall rise ⟨host,false,looks⟩ well=(⟨host,true,[]⟩,true)):=Lib.hid (by rw [HT.out,HN.out];simp [ht])
      have t1:decide ((j:Int)≥rise)=true:=by simp;omega
      go_wp2
      go_quiet (fail)
      go_wp2_with fail
      go_region
      go_wp2
      go_ret2
      rw [HL.out]
      exact ((HM.out.drewN _).fin1 hB HH.out hk _).drew
     ·have HL:Hid (zcR fall rise ⟨host,false,looks⟩ well=(⟨host,false,l'⟩,false)):=Lib.hid (by rw [HT.out,HN.out];simp [ht])
      have t1:decide ((j:Int)≥rise)=false:=by simp;omega
      go_wp2
      go_quiet (fail)
      go_wp2_with fail
      go_region
      go_wp2
      go_ret2
      rw [HL.out]
      exact (HM.out.drewN _).fin0 HH.out hk
    ·have hn:=hb1 hbu
     obtain rfl:b= !false:=by cases b<;>simp_all
     clear hb1 hb2 hbu
     go_wp2
     go_quiet (fail)
     go_wp2
     go_roundw
     case rel=>exact ⟨j+1,_,by omega,by omega,by go_num,rfl⟩
     case measure=>simp [intOf];omega
   ·have hn:=tr_end hjt (by rw [HLEN.out];omega)
    have HN:=Lib.hid hn
    have k1:decide ((j:Int)<(looks.length:Int)+1)=false:=by simp;omega
    clear hn
    obtain ⟨y0,y1,y2⟩:=row_of (HM.out.keepR HH.out) HH.out.len hk rfl
    have yb:=(HM.out.keep.blk HH.out.blk (by decide))
    have z0:=yb.cell 0
    have z1:=yb.cell 1
    have z2:=yb.cell 2
    have yf:=fun i=>(HM.out.keep.own HH.out.own (by decide)).frozenAt i
    have hgn:¬g=w.heap.size:=by omega
    clear yb
    by_cases ht:rise≤j
    ·have HL:Hid (zcR fall rise ⟨host,false,looks⟩ well=(⟨host,true,[]⟩,true)):=Lib.hid (by rw [HT.out,HN.out];simp [ht])
     have t1:decide ((j:Int)≥rise)=true:=by simp;omega
     go_wp2
     go_quiet (fail)
     go_wp2_with fail
     go_region
     go_wp2
     go_ret2
     rw [HL.out]
     exact ((HM.out.drewN _).fin1 hB HH.out hk _).drew
    ·have HL:Hid (zcR fall rise ⟨host,false,looks⟩ well=(⟨host,false,l'⟩,false)):=Lib.hid (by rw [HT.out,HN.out];simp [ht])
     have t1:decide ((j:Int)≥rise)=false:=by simp;omega
     go_wp2
     go_quiet (fail)
     go_wp2_with fail
     go_region
     go_wp2
     go_ret2
     rw [HL.out]
     exact (HM.out.drewN _).fin0 HH.out hk
 |true=>
  unfold ptr at HF ⊢
  go_enter Tryz.func44,Tryz.ntmps44
  go_wp2_with fail
  refine HF.out.mono ?_
  rintro e w1 ⟨rfl,rfl⟩
  go_wp2_with (at_builtin
               go_must (refine zac _ rfl (.tmp 26) (.tmp 28) _ rfl B 4 i0 (.bool false) 1 1 Tryz.underlying97 hi0 hz0 hz1 hz2 rfl (by decide) _ _ _ rfl ((hov.alloc _).alloc _) (w.heap.size+2) (some ⟨w.heap.size+1,0,none⟩) 1 1 [.bool well] rfl ⟨rfl,fun _=>⟨_,rfl,by simp,look_cell w _ _ _⟩⟩ (by simp [Value.oneCell']) (by simp only [maxLen];omega) (by omega) (by simp;omega) ?_)
               intro v' w3 hown3 hgrow hd
               obtain ⟨hmid,m1,m2,m3⟩:=HH.out.mid (well:=well) hB HGR.out HGV.out hgrow hown3 hd
               have HM:=Lib.hid hmid
               obtain ⟨g3,cap3,hv3,_⟩:=hown3.form (by omega)
               subst hv3
               clear hmid)
  have hlen:(looks++[well]).length=looks.length+1:=by simp
  have HT:Hid (zcR fall rise ⟨host,true,looks⟩ well=if (if true then fall else rise)≤tr true (looks++[well]) then (⟨host,!true,[]⟩,true) else (⟨host,true,looks++[well]⟩,false)):=Lib.hid rfl
  generalize w3.setCell ⟨w.heap.size,2,none⟩ (.slice (some ⟨g3,0,none⟩) (looks.length+1) cap3)=W at*
  generalize looks++[well]=l' at*
  have hlt':=tr_le true l'
  have HLEN:=Lib.hid hlen
  clear hlen hlt'
  go_loopw [10] (fun kv wr=>∃j m:Nat,j≤looks.length+1∧j≤tr true l'∧kv= .int .i64 (j:Int)∧wr=W.drewN m) (fun kv _=>looks.length+1- (intOf kv).toNat)
  case atStart=>exact ⟨0,0,by omega,by omega,rfl,rfl⟩
  case round=>
   obtain ⟨j,m,hj,hjt,rfl,rfl⟩:=hrel
   obtain ⟨x0,x1,x2,f1,f2⟩:=HM.out.cells
   by_cases hlt:j<looks.length+1
   ·obtain ⟨b,hb,hb1,hb2⟩:=tr_step hjt (by rw [HLEN.out];exact hlt)
    have hxo:=HM.out.x.own
    rw [HLEN.out] at hxo
    have y:=hxo.cellAt (l'.length-1-j) (by rw [HLEN.out];omega)
    have hyb:(zdH l')[l'.length-1-j]? =some (.bool b):=by simp [zdH,hb]
    rw [hyb,HLEN.out,show looks.length+1-1-j=looks.length-j by omega] at y
    have k1:(j:Int)<(looks.length:Int)+1:=by omega
    have k2:0≤(looks.length:Int) -j:=by omega
    have k3:(looks.length:Int) -j<(looks.length:Int)+1:=by omega
    have k4:((looks.length:Int) -j).toNat=looks.length-j:=by omega
    clear hb hyb hxo
    by_cases hbu:b=true
    ·have hn:=hb2 hbu
     subst hbu
     have HN:=Lib.hid hn
     clear hb1 hb2 hn
     obtain ⟨y0,y1,y2⟩:=row_of (HM.out.keepR HH.out) HH.out.len hk rfl
     have yb:=(HM.out.keep.blk HH.out.blk (by decide))
     have z0:=yb.cell 0
     have z1:=yb.cell 1
     have z2:=yb.cell 2
     have yf:=fun i=>(HM.out.keep.own HH.out.own (by decide)).frozenAt i
     have hgn:¬g=w.heap.size:=by omega
     clear yb
     by_cases ht:fall≤j
     ·have HL:Hid (zcR fall rise ⟨host,true,looks⟩ well=(⟨host,false,[]⟩,true)):=Lib.hid (by rw [HT.out,HN.out];simp [ht])
      have t1:decide ((j:Int)≥fall)=true:=by simp;omega
      go_wp2
      go_quiet (fail)
      go_wp2_with fail
      go_region
      go_wp2
      go_ret2
      rw [HL.out]
      exact ((HM.out.drewN _).fin1 hB HH.out hk _).drew
     ·have HL:Hid (zcR fall rise ⟨host,true,looks⟩ well=(⟨host,true,l'⟩,false)):=Lib.hid (by rw [HT.out,HN.out];simp [ht])
      have t1:decide ((j:Int)≥fall)=false:=by simp;omega
      go_wp2
      go_quiet (fail)
      go_wp2_with fail
      go_region
      go_wp2
      go_ret2
      rw [HL.out]
      exact (HM.out.drewN _).fin0 HH.out hk
    ·have hn:=hb1 hbu
     obtain rfl:b= !true:=by cases b<;>simp_all
     clear hb1 hb2 hbu
     go_wp2
     go_quiet (fail)
     go_wp2
     go_roundw
     case rel=>exact ⟨j+1,_,by omega,by omega,by go_num,rfl⟩
     case measure=>simp [intOf];omega
   ·have hn:=tr_end hjt (by rw [HLEN.out];omega)
    have HN:=Lib.hid hn
    have k1:decide ((j:Int)<(looks.length:Int)+1)=false:=by simp;omega
    clear hn
    obtain ⟨y0,y1,y2⟩:=row_of (HM.out.keepR HH.out) HH.out.len hk rfl
    have yb:=(HM.out.keep.blk HH.out.blk (by decide))
    have z0:=yb.cell 0
    have z1:=yb.cell 1
    have z2:=yb.cell 2
    have yf:=fun i=>(HM.out.keep.own HH.out.own (by decide)).frozenAt i
    have hgn:¬g=w.heap.size:=by omega
    clear yb
    by_cases ht:fall≤j
    ·have HL:Hid (zcR fall rise ⟨host,true,looks⟩ well=(⟨host,false,[]⟩,true)):=Lib.hid (by rw [HT.out,HN.out];simp [ht])
     have t1:decide ((j:Int)≥fall)=true:=by simp;omega
     go_wp2
     go_quiet (fail)
     go_wp2_with fail
     go_region
     go_wp2
     go_ret2
     rw [HL.out]
     exact ((HM.out.drewN _).fin1 hB HH.out hk _).drew
    ·have HL:Hid (zcR fall rise ⟨host,true,looks⟩ well=(⟨host,true,l'⟩,false)):=Lib.hid (by rw [HT.out,HN.out];simp [ht])
     have t1:decide ((j:Int)≥fall)=false:=by simp;omega
     go_wp2
     go_quiet (fail)
     go_wp2_with fail
     go_region
     go_wp2
     go_ret2
     rw [HL.out]
     exact (HM.out.drewN _).fin0 HH.out hk
end Go.Proofs.YthkfhfldoniolaaGreatDoor
namespace Go.Proofs.YthkfhfldoniolaaGreatDoor
structure Mt (st:List St) (rs:List Rt) (n:Nat):Prop where
 len:st.length=rs.length
 le:st.length≤12
 at_:∀(i:Nat) (s:St) (r:Rt),st[i]? =some s→rs[i]? =some r→s.host=r.host∧s.up=r.up∧s.looks=tr r.up r.looks∧r.looks.length≤n
section
variable {st:List St} {rs:List Rt} {n:Nat}
theorem Mt.hosts (h:Mt st rs n):hosts st=zbW rs:=by
 unfold Go.Proofs.YthkfhfldoniolaaGreatDoor.hosts zbW
 apply List.ext_getElem (by simp [h.len])
 intro i h1 h2
 simp only [List.length_map] at h1 h2
 simp only [List.getElem_map]
 exact (h.at_ i st[i] rs[i] (List.getElem?_eq_getElem h1) (List.getElem?_eq_getElem h2)).1
theorem Mt.ups (h:Mt st rs n):ups st=rups rs:=by
 have:∀(a:List St) (b:List Rt),a.length=b.length→(∀(i:Nat) (s:St) (r:Rt),a[i]? =some s→b[i]? =some r→s.host=r.host∧s.up=r.up)→Go.Proofs.YthkfhfldoniolaaGreatDoor.ups a=rups b:=by
  intro a
  induction a with
  |nil=>intro b hl _;cases b with
   |nil=>rfl
   |cons _ _=>cases hl
  |cons s a ih=>intro b hl hat;cases b with
   |nil=>cases hl
   |cons r b=>
    have h0:=hat 0 s r rfl rfl
    have:=ih b (by simpa using hl) (fun i s' r' h1 h2=>hat (i+1) s' r' h1 h2)
    unfold Go.Proofs.YthkfhfldoniolaaGreatDoor.ups rups at this ⊢
    rw [List.filter_cons,List.filter_cons,h0.2]
    cases r.up
    ·simpa using this
    ·simp only [if_true,List.map_cons,h0.1,this]
 exact this st rs h.len fun i s r a b=>⟨(h.at_ i s r a b).1,(h.at_ i s r a b).2.1⟩
theorem Mt.ze0 (h:Mt st rs n) (x:ByteArray):ze0 st x=rUp rs x:=by
 unfold Go.Proofs.YthkfhfldoniolaaGreatDoor.ze0 rUp
 rw [h.hosts]
 generalize idx (zbW rs) x=i
 cases i with
 |ofNat k=>
  dsimp only
  cases hs:st[k]? with
  |none=>
   have:rs[k]? =none:=by rw [List.getElem?_eq_none_iff] at hs ⊢;rw [←h.len];exact hs
   rw [this]
  |some s=>
   have hk:k<rs.length:=by rw [←h.len];exact (List.getElem?_eq_some_iff.1 hs).1
   rw [List.getElem?_eq_getElem hk]
   exact (h.at_ k s rs[k] hs (List.getElem?_eq_getElem hk)).2.1
 |negSucc k=>rfl
theorem Mt.mono {m:Nat} (h:Mt st rs n) (hm:n≤m):Mt st rs m:=⟨h.len,h.le,fun i s r a b=>by obtain ⟨x,y,z,u⟩:=h.at_ i s r a b;exact ⟨x,y,z,by omega⟩⟩
theorem look_one_step {fall rise:Nat} {s:St} {r:Rt} (well:Bool) (h1:1≤fall) (h2:1≤rise) (hh:s.host=r.host) (hu:s.up=r.up) (hl:s.looks=tr r.up r.looks):
 (zbu fall rise s well).2=(zcR fall rise r well).2∧(zbu fall rise s well).1.host=(zcR fall rise r well).1.host∧(zbu fall rise s well).1.up=(zcR fall rise r well).1.up∧
   (zbu fall rise s well).1.looks=tr (zcR fall rise r well).1.up (zcR fall rise r well).1.looks∧(zcR fall rise r well).1.looks.length≤r.looks.length+1:=by
 have ht:=tr_snoc r.up well r.looks
 unfold zbu zcR
 rw [hu]
 by_cases hw:r.up=well
 ·have hw':well=r.up:=hw.symm
  rw [if_pos hw'] at ht
  have hne:¬(if r.up=true then fall else rise)≤tr r.up (r.looks++[well]):=by rw [ht];split<;>omega
  rw [if_pos hw,if_neg hne]
  exact ⟨rfl,hh,rfl,ht.symm,by simp⟩
 ·have hw':¬well=r.up:=fun e=>hw e.symm
  rw [if_neg hw'] at ht
  rw [if_neg hw,ht,hl]
  by_cases he:tr r.up r.looks+1<(if r.up=true then fall else rise)
  ·rw [if_pos he,if_neg (by omega)]
   exact ⟨rfl,hh,rfl,ht.symm,by simp⟩
  ·rw [if_neg he,if_pos (by omega)]
   exact ⟨rfl,hh,rfl,rfl,Nat.zero_le _⟩
theorem Mt.look {fall rise:Nat} (h:Mt st rs n) (i:Int) (well:Bool) (h1:1≤fall) (h2:1≤rise):
 (zbC st i fun s=>zbu fall rise s well).2=(zbC rs i fun r=>zcR fall rise r well).2∧Mt (zbC st i fun s=>zbu fall rise s well).1 (zbC rs i fun r=>zcR fall rise r well).1 (n+1):=by
 unfold zbC
 by_cases hi:i<0
 ·rw [if_pos hi,if_pos hi];exact ⟨rfl,h.mono (by omega)⟩
 rw [if_neg hi,if_neg hi]
 cases hs:st[i.toNat]? with
 |none=>
  have:rs[i.toNat]? =none:=by rw [List.getElem?_eq_none_iff] at hs ⊢;rw [←h.len];exact hs
  rw [this]
  exact ⟨rfl,h.mono (by omega)⟩
 |some s=>
  have hk:i.toNat<rs.length:=by rw [←h.len];exact (List.getElem?_eq_some_iff.1 hs).1
  have hks:=(List.getElem?_eq_some_iff.1 hs).1
  have hr:=List.getElem?_eq_getElem hk
  rw [hr]
  obtain ⟨a,b,c,d⟩:=h.at_ _ s _ hs hr
  obtain ⟨e1,e2,e3,e4,e5⟩:=look_one_step (fall:=fall) (rise:=rise) well h1 h2 a b c
  refine ⟨e1,by simp [h.len],by simp;exact h.le,fun j s' r' x y=> ?_⟩
  by_cases hj:i.toNat=j
  ·subst hj
   rw [List.getElem?_set_self hks] at x
   rw [List.getElem?_set_self hk] at y
   cases x;cases y
   exact ⟨e2,e3,e4,Nat.le_trans e5 (Nat.add_le_add_right d 1)⟩
  ·rw [List.getElem?_set_ne hj] at x y
   obtain ⟨x1,x2,x3,x4⟩:=h.at_ j s' r' x y
   exact ⟨x1,x2,x3,by omega⟩
theorem Mt.rlooks (h:Mt st rs n) (hn:n≤1000):∀r∈rs,r.looks.length≤1000:=by
 intro r hr
 obtain ⟨i,hi,rfl⟩:=List.mem_iff_getElem.1 hr
 have hs:i<st.length:=by rw [h.len];exact hi
 have:=(h.at_ i st[i] rs[i] (List.getElem?_eq_getElem hs) (List.getElem?_eq_getElem hi)).2.2.2
 omega
theorem Mt.fresh (l:List ByteArray) (hl:l.length≤12):Mt (fresh l) (zdi l) 0:=by
 refine ⟨by simp [Go.Proofs.YthkfhfldoniolaaGreatDoor.fresh,zdi],by simpa [Go.Proofs.YthkfhfldoniolaaGreatDoor.fresh] using hl,fun i s r a b=> ?_⟩
 unfold Go.Proofs.YthkfhfldoniolaaGreatDoor.fresh at a
 unfold zdi at b
 rw [List.getElem?_map] at a b
 cases hx:l[i]? with
 |none=>rw [hx] at a;cases a
 |some x=>rw [hx] at a b;cases a;cases b;exact ⟨rfl,rfl,rfl,Nat.le_refl _⟩
end
end Go.Proofs.YthkfhfldoniolaaGreatDoor
