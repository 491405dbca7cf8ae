/-
  The law's answer: what is asked of the hosts; the flows. The law's answer to a line. The keys stay small. What stands in the law ScriptPlays: the model, the lines, what is wanted.
-/
import Derived.Test.YthkfhfldoniolaaGreatDoorAskA
set_option maxHeartbeats 2000000
namespace Go.Proofs.YthkfhfldoniolaaGreatDoor
open Go.RowKit
section
variable {w W W':World} {mp n:Nat} {s:PlS}
set_option maxRecDepth 100000 in
theorem ans_asked (hM:zfp w W mp n s) (hs:s.b≠none) {wd:ByteArray} (n0:wd≠zav) (n1:wd≠zaP) (n2:wd≠zfU) (n3:wd≠cmLook) (n4:wd≠zeo) (n5:wd≠cmTick) (n6:wd≠cmUp) (n7:wd≠zez) (n8:wd≠zds) {v1 v2:Value} {r:Nat×ByteArray} {t:ByteArray} (ht:t=zbX r)
 (hA:∀W1,Below W.heap.size W W1→Calls Tryz.prog 27 #[.pointer (some ⟨mp,0,none⟩),.agg #[.string wd,v1,v2]] W1 (zfj t W1)):
 Calls Tryz.prog 9 #[.pointer (some ⟨mp,0,none⟩),.agg #[.string wd,v1,v2]] W (zat w mp (n+1) (r,s) W):=by
 obtain ⟨x0,x1,x2,hB,hlo,hbw,hx⟩:=hM.cells
 obtain ⟨W1,hW1⟩:∃W1,W1=W.alloc (.cells #[.string wd,v1,v2] 31):=⟨_,rfl⟩
 have hb1:Below W.heap.size W W1:=by rw [hW1];exact (Below.refl _ _).alloc (Nat.le_refl _) _
 obtain ⟨g,e1⟩:∃g,W1.cell? ⟨mp,0,none⟩=some (.pointer (some ⟨g,0,none⟩)):=by
  rcases hx with ⟨e,_⟩|⟨_,g,e⟩
  ·exact absurd e hs
  ·exact ⟨g,by rw [←e];exact (hB.below hb1 hB.lt).cell 0⟩
 have HA:=Lib.hid (hA W1 hb1)
 have HF:Hid (∀w2,Below W1.heap.size W1 w2→zat w mp (n+1) (r,s) W (.returned (.string t)) w2):=Lib.hid fun w2 hb2=>ans_keep ht hM (zaa hb1 hb2)
 have l0:=zao n0
 have l1:=zao n1
 have l2:=zao n2
 have l3:=zao n3
 have l4:=zao n4
 have l5:=zao n5
 have l6:=zao n6
 have l7:=zao n7
 have l8:=zao n8
 unfold zfj at HA
 rw [hW1] at e1
 clear ht hM hB hx hb1 hA n0 n1 n2 n3 n4 n5 n6 n7 n8
 generalize zat w mp (n+1) (r,s) W=PQ at*
 go_enter Tryz.func9,Tryz.ntmps9
 go_wp2_with fail
 rw [←hW1]
 clear hW1 e1
 refine HA.out.mono ?_
 rintro e w2 ⟨rfl,hb2⟩
 have HQ:=Lib.hid (HF.out w2 hb2)
 clear hb2 HF HA
 go_wp2
 exact HQ.out
end
section
variable {w W W':World} {mp n c now:Nat} {p:RBp} {A:Option Addr} {hs:List ByteArray} {s:BS}
set_option maxRecDepth 100000 in
theorem ans_flows (hM:zdO w W mp n p A c hs s now) (hI:PlI hs n now s) (hkey:∀y∈s.fs.2,y.key≤9999999) {Al An:Option Addr} {cl c2:Nat}:
 Calls Tryz.prog 9 #[.pointer (some ⟨mp,0,none⟩),.agg #[.string ⟨#[102,108,111,119,115]⟩,.slice Al 0 cl,.slice An 0 c2]] W (zat w mp (n+1) (zaJ .flows ⟨[],[]⟩ hs s now) W):=by
 obtain ⟨W1,hW1⟩:∃W1,W1=W.alloc (.cells #[.string ⟨#[102,108,111,119,115]⟩,.slice Al 0 cl,.slice An 0 c2] 31):=⟨_,rfl⟩
 have hb1:Below W.heap.size W W1:=by rw [hW1];exact (Below.refl _ _).alloc (Nat.le_refl _) _
 obtain ⟨i0,hi0,hz0,hz1,hz2⟩:=info_parts zc6
 have hM1:=hM.below hb1
 have e1:W1.cell? ⟨mp,0,none⟩=some (.pointer (some ⟨p.mb,0,none⟩)):=hM1.blk.cell 0
 rw [hW1] at e1
 have hf:=hM1.r.f
 obtain ⟨A3,c3,hfv,hr3,_⟩:=zai hf.row
 have hz3:0<s.fs.2.length→∃g,A3=some ⟨g,0,none⟩:=fun h0=>row_zero3 (by rw [←hfv];exact hf.row) h0
 have hlen:=hf.len
 have HRd:Hid (∀wr,Below W1.heap.size W1 wr→wr.cell? ⟨mp,0,none⟩=some (.pointer (some ⟨p.mb,0,none⟩))∧wr.cell? ⟨p.mb,1,none⟩=some (.pointer (some ⟨p.mf,0,none⟩))∧wr.cell? ⟨p.mf,2,none⟩=some (.slice A3 s.fs.2.length c3)):=Lib.hid fun wr hb=>by
  have h:=hM1.below hb
  obtain ⟨_,u1,_,_,_⟩:=h.r.cells
  refine ⟨h.blk.cell 0,u1, ?_⟩
  rw [←hfv]
  exact h.r.f.blk.cell 2
 have HR3:=Lib.hid (fun w' (hb:Below W1.heap.size W1 w')=>(hr3.below hb).more hb.size)
 have HZ3:=Lib.hid hz3
 have hok:∀i (hi:i<s.fs.2.length),s.fs.2[i].key≤9999999∧s.fs.2[i].host.size≤12:=fun i hi=>by
  have h2:=hI.fl _ (List.getElem_mem hi)
  exact ⟨hkey _ (List.getElem_mem hi),hI.small _ h2.1⟩
 have hsm:∀y∈s.fs.2.map zaq,y.size≤1000:=fun y hy=>by
  obtain ⟨x,hx,rfl⟩:=List.mem_map.1 hy
  have h2:=hI.fl x hx
  have:=line_size h2.2.2.2 (hI.small _ h2.1)
  omega
 have HOk:=Lib.hid hok
 have HF:Hid (∀w2,Below W1.heap.size W1 w2→zat w mp (n+1) (zaJ .flows ⟨[],[]⟩ hs s now) W (.returned (.string (zbA (s.fs.2.map zaq) [44,32]))) w2):=Lib.hid fun w2 hb2=>
  ans_of (r:=zaJ .flows ⟨[],[]⟩ hs s now) (s:=s) (now:=now) (A:=A) (c:=c) rfl rfl rfl ⟨p,(hM1.below hb2).more (Nat.le_succ n)⟩ (zfe.of_below (zaa hb1 hb2))
 have HJ:Hid (∀w2 B A3 c3,w2.ownsRow B 9 1 (.slice A3 s.fs.2.length c3) s.fs.2.length (zak (s.fs.2.map zaq))→Calls Tryz.prog 24 #[.slice A3 s.fs.2.length c3,.string ⟨#[44,32]⟩] w2 fun e w'=>e= .returned (.string (zbA (s.fs.2.map zaq) [44,32]))∧w2=w'):=Lib.hid fun w2 B A3 c3 ho=>by
  have hl2:(s.fs.2.map zaq).length=s.fs.2.length:=List.length_map _
  rw [←hl2] at ho ⊢
  exact zdY A3 c3 _ ⟨#[44,32]⟩ w2 (Reads.zbv ho) (by omega) hsm (by decide)
 clear hI hM hM1 hsm hok hkey hb1 hf hfv hr3 hz3
 generalize zat w mp (n+1) (zaJ .flows ⟨[],[]⟩ hs s now) W=PQ at*
 generalize zbA (s.fs.2.map zaq) [44,32]=res at*
 generalize s.fs.2=L at*
 go_enter Tryz.func9,Tryz.ntmps9
 go_wp2_with fail
 rw [←hW1]
 clear hW1 e1
 go_loopw [13,14] (fun ov iv wr=>∃(i:Nat) (A':Option Addr) (cap:Nat),i≤L.length∧ov= .slice A' i cap∧iv= .int .i64 (i:Int)∧Hid (wr.ownsRow W1.heap.size 9 1 (.slice A' i cap) i (zak ((L.take i).map zaq)))∧Hid (Below W1.heap.size W1 wr)) (fun _ iv _=>L.length+1- (intOf iv).toNat)
 case atStart=>exact ⟨0,none,0,Nat.zero_le _,rfl,rfl,Lib.hid (World.ownsRow_nil _ _ _ _),Lib.hid (Below.refl _ _)⟩
 case round=>
  obtain ⟨i,A',cap,hile,rfl,rfl,hR,hB⟩:=hrel
  obtain ⟨m0,m1,m2⟩:=HRd.out wr hB.out
  by_cases hil:i<L.length
  ·obtain ⟨g,rfl⟩:=HZ3.out (by omega)
   have hil2:(i:Int)<L.length:=by omega
   obtain ⟨a0,a1,a2⟩:=cells3_reads (HR3.out wr hB.out) hil
   obtain ⟨hu,hz12⟩:=HOk.out i hil
   obtain ⟨y,hy⟩:∃y,y=L[i]:=⟨_,rfl⟩
   have hti:(L.take (i+1)).map zaq=(L.take i).map zaq++[zaq y]:=by
    rw [List.take_succ_eq_append_getElem hil,List.map_append,hy]
    rfl
   rw [←hy] at a0 a1 a2 hu hz12
   have hwk:IntKind.i64.wrap (y.key:Int)=(y.key:Int):=IntWalk.i64_in _ (by omega)
   obtain ⟨d,hd⟩:∃d,d=bt (Lib.decDigits y.key):=⟨_,rfl⟩
   have hds:d.size≤20:=by
    have:=zb9 (n:=y.key) (by unfold U64;omega)
    rw [hd,bt_size]
    exact this
   have hline:d++⟨#[32]⟩++y.host=zaq y:=by
    rw [hd]
    apply zft
    unfold zaq bt
    simp
   have s1:¬9223372036854775807<d.size+1:=by omega
   have s2:¬9223372036854775807<d.size+1+y.host.size:=by omega
   obtain ⟨wF,hwF⟩:∃wF,wF=wr.alloc (.cells #[.int .u64 (y.key:Int),.string y.host,.int .i64 y.til] 72):=⟨_,rfl⟩
   have hbF:Below wr.heap.size wr wF:=by rw [hwF];exact (Below.refl _ _).alloc (Nat.le_refl _) _
   have hkF:Blk wF wr.heap.size 72 #[.int .u64 (y.key:Int),.string y.host,.int .i64 y.til]:=by rw [hwF];exact Blk.new _ _ _
   have HFU:Hid (Calls Tryz.prog 16 #[.int .i64 (y.key:Int)] wF.drew fun e w'=>e= .returned (.string d)∧Below wF.heap.size wF w'):=Lib.hid (by
    have h:=zb4 y.key (by omega) wF.drew
    rw [Lib.itoa_nonneg] at h
    rw [hd]
    exact h.mono fun e w' ⟨a,b⟩=>⟨a,zab b⟩)
   have HST:Hid (∀w4,Below wF.heap.size wF w4→w4.cell? ⟨wr.heap.size,0,none⟩=some (.int .u64 (y.key:Int))∧w4.cell? ⟨wr.heap.size,1,none⟩=some (.string y.host)):=Lib.hid fun w4 hb=>⟨(hkF.below hb hkF.lt).cell 0,(hkF.below hb hkF.lt).cell 1⟩
   have HAP:Hid (∀w4,Below wF.heap.size wF w4→(w4.alloc (.cells #[.string (zaq y)] 9)).ownsRow W1.heap.size 9 1 (.slice A' i cap) i (zak ((L.take i).map zaq))∧W1.heap.size≤(w4.alloc (.cells #[.string (zaq y)] 9)).heap.size∧Reads (w4.alloc (.cells #[.string (zaq y)] 9)) (w4.alloc (.cells #[.string (zaq y)] 9)).heap.size 1 (some ⟨w4.heap.size,0,none⟩) 1 [.string (zaq y)]∧
    ∀v' W',W'.ownsRow W1.heap.size 9 1 v' (i+1) (zak ((L.take i).map zaq)++[.string (zaq y)])→(w4.alloc (.cells #[.string (zaq y)] 9)).grownBy W' (Value.slice A' i cap).ownBlock→∃A2 cap2,v'= .slice A2 (i+1) cap2∧Hid (W'.ownsRow W1.heap.size 9 1 (.slice A2 (i+1) cap2) (i+1) (zak ((L.take (i+1)).map zaq)))∧Hid (Below W1.heap.size W1 W')∧W'.cell? ⟨wr.heap.size,0,none⟩=some (.int .u64 (y.key:Int))∧W'.cell? ⟨wr.heap.size,1,none⟩=some (.string y.host)):=Lib.hid fun w4 hb=>by
    have hbA:=zaa hbF (zaa hb ((Below.refl w4.heap.size w4).alloc (Nat.le_refl _) (.cells #[.string (zaq y)] 9)))
    have hRW:=own_below hR.out hbA
    have hkA:=hkF.below (zaa hb ((Below.refl w4.heap.size w4).alloc (Nat.le_refl _) (.cells #[.string (zaq y)] 9))) hkF.lt
    refine ⟨hRW,Nat.le_trans hB.out.size hbA.size,zbq (Blk.new w4 9 [Value.string (zaq y)].toArray),fun v' W' g1 g2=> ?_⟩
    have e:zak ((L.take (i+1)).map zaq)=zak ((L.take i).map zaq)++[.string (zaq y)]:=by
     rw [hti]
     simp [zak]
    rw [←e] at g1
    obtain ⟨A2,cap2,rfl,_⟩:=zai g1
    have hkW:Blk W' wr.heap.size 72 #[.int .u64 (y.key:Int),.string y.host,.int .i64 y.til]:=hkA.grown g2 fun he=>by
     obtain ⟨cs,hC⟩:=zbE hRW he.symm
     exact hkA.ne_ hC (by decide) rfl
    exact ⟨A2,cap2,rfl,Lib.hid g1,Lib.hid (za9 (zaa hB.out hbA) hRW g2),hkW.cell 0,hkW.cell 1⟩
   have hS0:=HST.out wF.drew (zad (Below.refl _ _))
   clear hti hy hR hB hd hds hu hz12 hbF hkF
   generalize zak ((L.take i).map zaq)=ys at*
   go_wp2_with fail
   rw [←hwF]
   clear hwF
   clear m0 m1 m2
   go_region_law (first
    |(go_simp
      go_at_call 16
      refine HFU.out.mono ?_
      rintro e w4 ⟨rfl,hb4⟩
      obtain ⟨c0,c1⟩:=HST.out w4 hb4
      obtain ⟨p1,p2,p3,p4⟩:=HAP.out w4 hb4
      have HP1:=Lib.hid p1
      have HP2:=Lib.hid p2
      have HP3:=Lib.hid p3
      have HP4:=Lib.hid p4
      clear p1 p2 p3 p4 hb4)
    |(refine zbh _ rfl (.tmp 198) (.tmp 207) _ rfl W1.heap.size 9 i0 _ 1 16 Tryz.underlying24 hi0 hz0 hz1 hz2 rfl (by omega) (.slice A' i cap) i ys (by simp [Act.eval]) HP1.out _ (some ⟨w4.heap.size,0,none⟩) 1 1 [.string (zaq y)] (by simp [Act.eval]) HP3.out (by simp [Value.oneCell']) (by simp only [maxLen];omega) (by omega) HP2.out ?_
      intro v5 w5 hown5 hgrow5 _
      obtain ⟨A5,cap5,hv5,HR5,HB5,c5,c6⟩:=HP4.out v5 w5 hown5 hgrow5
      subst hv5
      clear hown5 hgrow5))
   all_goals
    clear c0 c1 c5 c6 a0 a1 a2 s1 s2 hline hwk
    go_wp2
    go_roundw
    case rel=>exact ⟨i+1,A5,cap5,by omega,rfl,by go_num,HR5,HB5⟩
    case measure=>simp [intOf];omega
  ·obtain rfl:i=L.length:=by omega
   have hge:¬(L.length:Int)<L.length:=by omega
   have HJ2:=Lib.hid (HJ.out wr W1.heap.size A' cap (by
    have h:=hR.out
    rwa [List.take_length] at h))
   have HQ:=Lib.hid (HF.out wr hB.out)
   clear hR hB HJ HR3 HZ3 HOk HF HRd
   go_wp2_with fail
   refine HJ2.out.mono ?_
   rintro e w3 ⟨rfl,rfl⟩
   go_wp2
   exact HQ.out
end
def KyOk (s:PlS):Prop:=match s.b with
 |none=>True
 |some hb=>∀y∈hb.2.fs.2,y.key≤9999999
section
variable {k now:Nat} {hs:List ByteArray} {s:BS} {x:Wd}
theorem kyOk_of (h:∀y∈s.fs.2,y.key≤9999999):KyOk ⟨some (hs,s),now⟩:=h
theorem pickS_ky (hl:s.fs.2.length<200) (h:∀y∈s.fs.2,y.key≤9999999) {m:Nat} (hm:m≤9999999):∀y∈(zbz (cS hs) s m now).2.fs.2,y.key≤9999999:=by
 have hp:∀z:Fl,z.key=m→∀y∈zeg s.fs.2 z,y.key≤9999999:=fun z hz y hy=>by
  rcases (put_mem hl).1 hy with rfl|⟨hy,_⟩
  ·rw [hz];exact hm
  ·exact h y hy
 unfold zbz
 split
 ·split
  ·exact hp _ rfl
  ·split
   ·exact h
   ·exact hp _ rfl
 ·exact h
theorem actS_ky (c:Cmd) (hx:∀n∈x.n,n≤9999999) (hl:s.fs.2.length<200) (h:∀y∈s.fs.2,y.key≤9999999):KyOk (zaJ c x hs s now).2:=by
 cases c with
 |table=>unfold zaJ;dsimp only;split<;>exact h
 |moves=>unfold zaJ;dsimp only;split<;>exact h
 |ring=>unfold zaJ;dsimp only;split<;>exact h
 |rival=>exact h
 |pick=>exact pickS_ky hl h (words_n hx)
 |look=>
  show∀y∈(zcl (cS hs) s _ _).2.fs.2,_
  unfold zcl
  dsimp only
  split
  ·exact fun y hy=>h y (List.mem_filter.1 hy).1
  ·exact h
 |drain=>unfold zaJ;dsimp only;split<;>exact h
 |tick=>exact h
 |up=>exact h
 |flows=>exact h
 |exprt=>exact h
theorem beginS_ky {s:PlS} (h:KyOk s) (hs:List ByteArray):KyOk (zbt s hs).2:=by
 unfold zbt
 split
 ·exact h
 ·exact kyOk_of fun y hy=>by cases hy
theorem lineS_ky {s:PlS} (hp:PlOk k s) (hk:k<200) (h:KyOk s) (c:ByteArray) (l:List ByteArray):KyOk (zch s c l).2:=by
 unfold zch
 split
 ·split
  ·exact h
  ·exact beginS_ky h _
 ·split
  ·split<;>exact h
  ·split
   ·exact h
   ·split
    ·exact h
    ·rename_i hr
     split
     ·exact h
     ·split
      ·exact h
      ·rename_i hb hsb
       unfold KyOk at h
       unfold PlOk at hp
       rw [hsb] at h hp
       exact actS_ky _ (zen hr).2.2 (Nat.lt_of_le_of_lt hp.2 hk) h
theorem scrS_ky (l:List ByteArray):∀i,i≤l.length→i≤200→KyOk (zcH (l.take i)).2
 |0,_,_=>trivial
 |i+1,h,h2=>by
  rw [zfR h]
  exact lineS_ky (scrS_ok l i (by omega) (by omega)) (by omega) (scrS_ky l i (by omega) (by omega)) _ _
end
section
variable {w:World} {A:Option Addr}
theorem num_cell {a:Int} {N:List Int} {m:Nat} (hr:Reads w w.heap.size 1 A m (N.map intV)) (hm:m=N.length) (h0:N[0]? =some a) (ha:0≤a):∃ad,A=some ad∧w.cell? ad=some (.int .i64 ((a.toNat:Nat):Int))∧∀b:Int,N[1]? =some b→0≤b→w.cell? ⟨ad.block,ad.off+1,none⟩=some (.int .i64 ((b.toNat:Nat):Int)):=by
 subst hm
 have hl:0<N.length:=(List.getElem?_eq_some_iff.1 h0).1
 obtain ⟨ad,u,hA,hb,hx,hc⟩:=hr.at_ hl
 refine ⟨ad,hA, ?_,fun b hb2 hbz=> ?_⟩
 ·rw [zd3] at hc
  rw [hc]
  rw [List.getElem?_map,h0] at hx
  cases hx
  show some (Value.int .i64 a)=_
  rw [show ((a.toNat:Nat):Int)=a by omega]
 ·have hl1:1<N.length:=(List.getElem?_eq_some_iff.1 hb2).1
  obtain ⟨ad2,u2,hA2,_,hx2,hc2⟩:=hr.at_ hl1
  rw [hA] at hA2
  cases hA2
  rw [addr1] at hc2
  rw [hc2]
  rw [List.getElem?_map,hb2] at hx2
  cases hx2
  show some (Value.int .i64 b)=_
  rw [show ((b.toNat:Nat):Int)=b by omega]
theorem str_cell {z:ByteArray} (hr:Reads w w.heap.size 1 A 1 (zak [z])):∃bd,A=some bd∧w.cell? bd=some (.string z):=by
 obtain ⟨ad,u,hA,hb,hx,hc⟩:=hr.at_ (by decide:0<1)
 refine ⟨ad,hA, ?_⟩
 rw [zd3] at hc
 rw [hc]
 cases hx
 rfl
end
section
variable {ea:Nat→Addr} {w W:World} {mp n now:Nat} {hs H:List ByteArray} {s:BS} {A A2:Option Addr} {c c2:Nat}
theorem zer (h:zfp w W mp n ⟨some (hs,s),now⟩):∃p A c,zdO w W mp n p A c hs s now:=h
theorem act_fix {q:Cmd} (h:q= .table∨q= .moves∨q= .ring∨q= .rival) (x:Wd):zaJ q x hs s now=((zaJ q x hs s now).1,⟨some (hs,s),now⟩):=by
 rcases h with rfl|rfl|rfl|rfl
 ·unfold zaJ;dsimp only;split<;>rfl
 ·unfold zaJ;dsimp only;split<;>rfl
 ·unfold zaJ;dsimp only;split<;>rfl
 ·rfl
theorem zdc {t:ByteArray} {q:Cmd} {N:List Nat} {v1 v2:Value} (hM:zfp w W mp n ⟨none,now⟩) (n1:t≠zav) (n2:t≠zaP) (hc:zfV t=some q):
 Calls Tryz.prog 9 #[.pointer (some ⟨mp,0,none⟩),.agg #[.string t,v1,v2]] W (zat w mp (n+1) (zf3 ⟨none,now⟩ t H N) W):=by
 rw [lineK_cmd n1 n2 hc]
 exact ans_none hM rfl n1 n2 v1 v2
def AnsAt (w W:World) (mp n:Nat) (v1 v2:Value) (hs H:List ByteArray) (s:BS) (now:Nat) (N:List Nat) (t:ByteArray) (q:Cmd):Prop:=
 Calls Tryz.prog 9 #[.pointer (some ⟨mp,0,none⟩),.agg #[.string t,v1,v2]] W (zat w mp (n+1) (zaJ q ⟨H,N⟩ hs s now) W)
theorem zc7 {t:ByteArray} {q:Cmd} {N:List Nat} {v1 v2:Value} (n1:t≠zav) (n2:t≠zaP) (hc:zfV t=some q) (h:AnsAt w W mp n v1 v2 hs H s now N t q):
 Calls Tryz.prog 9 #[.pointer (some ⟨mp,0,none⟩),.agg #[.string t,v1,v2]] W (zat w mp (n+1) (zf3 ⟨some (hs,s),now⟩ t H N) W):=by
 rw [lineK_cmd n1 n2 hc]
 exact h
theorem at_asked {t:ByteArray} {q:Cmd} {N:List Nat} {v1 v2:Value} (hq:q= .table∨q= .moves∨q= .ring∨q= .rival) (n0:t≠zav) (n1:t≠zaP) (n2:t≠zfU) (n3:t≠cmLook) (n4:t≠zeo) (n5:t≠cmTick) (n6:t≠cmUp) (n7:t≠zez) (n8:t≠zds) (hM:zfp w W mp n ⟨some (hs,s),now⟩)
 (hA:∀W1,Below W.heap.size W W1→Calls Tryz.prog 27 #[.pointer (some ⟨mp,0,none⟩),.agg #[.string t,v1,v2]] W1 (zfj (zbX (zaJ q ⟨H,N⟩ hs s now).1) W1)):AnsAt w W mp n v1 v2 hs H s now N t q:=by
 unfold AnsAt
 rw [act_fix hq]
 exact ans_asked hM (by simp) n0 n1 n2 n3 n4 n5 n6 n7 n8 rfl hA
end
theorem answer_any {ea:Nat→Addr} {w W:World} {mp n:Nat} {s:PlS} {t:ByteArray} (hE:zd4 ea w) (x:zcT) (hx:zc3 w x) (h30:x.h.length≤30) (ht:zcW x.word x.h x.n=some t) (hM:zfp w W mp n s) (hP:PlOk n s) (hK:KyOk s) (hn:n≤60):
 Calls Tryz.prog 9 #[.pointer (some ⟨mp,0,none⟩),.agg #[.string x.word,.slice x.A x.h.length x.c,.slice x.A2 x.n.length x.c2]] W (zat w mp (n+1) (zf3 s x.word x.h (x.n.map Int.toNat)) W):=by
 obtain ⟨xw,xh,xn,A,c,A2,c2⟩:=x
 have hT:zcr w A c xh:=⟨hx.r,hx.hc,Nat.le_trans hx.hc hx.hm,hx.s⟩
 have hr:=hx.r
 have hr2:=hx.r2
 dsimp only at hr hr2 ht h30 hT ⊢
 clear hx
 unfold zcW at ht
 split at ht
 ·cases ht
 rename_i f m hf
 split at ht
 case isFalse=>cases ht
 rename_i hc
 obtain ⟨h1,h2,h3⟩:=hc
 clear ht
 unfold zcx at hf
 split at hf
 ·rename_i e
  subst e
  cases hf
  obtain ⟨e1,e2⟩:=fits_neg (by omega) h1
  obtain rfl:xn=[]:=List.eq_nil_of_length_eq_zero e1
  unfold zf3
  rw [if_pos rfl]
  exact ans_hosts hM hT
 rename_i g1
 split at hf
 ·rename_i e
  subst e
  cases hf
  obtain ⟨e1,e2⟩:=fits_neg (by omega) h1
  obtain ⟨a,rfl⟩:=zev e1
  have ha:=zb3 (List.all_eq_true.1 h3 a List.mem_cons_self)
  obtain ⟨ad,rfl,hN,_⟩:=num_cell hr2 rfl rfl ha.1
  obtain ⟨b,now⟩:=s
  rcases b with _|⟨hs,s⟩
  ·exact zdc (q:= .moves) hM (by decide) (by decide) (by decide)
  ·obtain ⟨p,Am,cm,hB⟩:=zer hM
   exact zc7 (q:= .moves) (by decide) (by decide) (by decide) (at_asked (.inr (.inl rfl)) (by decide) (by decide) (by decide) (by decide) (by decide) (by decide) (by decide) (by decide) (by decide) hM fun W1 hb1=>ask_moves hE (hB.below hb1) hP.1 (by omega) a.toNat (by omega) hT hN)
 rename_i g2
 split at hf
 ·rename_i e
  cases hf
  obtain ⟨e1,e2⟩:=zdo (by omega) h1
  obtain ⟨a,rfl⟩:=zev e1
  obtain rfl:xh=[]:=List.eq_nil_of_length_eq_zero (by omega)
  have ha:=zb3 (List.all_eq_true.1 h3 a List.mem_cons_self)
  obtain ⟨ad,rfl,hN,_⟩:=num_cell hr2 rfl rfl ha.1
  have ha2:a.toNat≤9999999:=by omega
  obtain ⟨b,now⟩:=s
  rcases b with _|⟨hs,s⟩
  ·rcases e with rfl|rfl|rfl|rfl
   ·exact zdc (q:= .table) hM (by decide) (by decide) (by decide)
   ·exact zdc (q:= .rival) hM (by decide) (by decide) (by decide)
   ·exact zdc (q:= .pick) hM (by decide) (by decide) (by decide)
   ·exact zdc (q:= .tick) hM (by decide) (by decide) (by decide)
  ·obtain ⟨p,Am,cm,hB⟩:=zer hM
   rcases e with rfl|rfl|rfl|rfl
   ·exact zc7 (q:= .table) (by decide) (by decide) (by decide) (at_asked (.inl rfl) (by decide) (by decide) (by decide) (by decide) (by decide) (by decide) (by decide) (by decide) (by decide) hM fun W1 hb1=>ask_table (hB.below hb1) hP.1 a.toNat hN)
   ·exact zc7 (q:= .rival) (by decide) (by decide) (by decide) (at_asked (.inr (.inr (.inr rfl))) (by decide) (by decide) (by decide) (by decide) (by decide) (by decide) (by decide) (by decide) (by decide) hM fun W1 hb1=>ask_rival (hB.below hb1) hP.1 a.toNat ha2 hN)
   ·exact zc7 (q:= .pick) (by decide) (by decide) (by decide) (ans_pick hB hP.1 (by omega) a.toNat ha2 hN)
   ·exact zc7 (q:= .tick) (by decide) (by decide) (by decide) (ans_tick hB hP.1 (by omega) a.toNat ha2 hN)
 split at hf
 ·rename_i e
  cases hf
  obtain ⟨e1,e2⟩:=zdo (by omega) h1
  obtain ⟨a,b,rfl⟩:=len_two e1
  obtain rfl:xh=[]:=List.eq_nil_of_length_eq_zero (by omega)
  have ha:=zb3 (List.all_eq_true.1 h3 a List.mem_cons_self)
  have hb:=zb3 (List.all_eq_true.1 h3 b (by simp))
  obtain ⟨ad,rfl,hN,hN2⟩:=num_cell hr2 rfl rfl ha.1
  have hN2:=hN2 b rfl hb.1
  have ha2:a.toNat≤9999999:=by omega
  have hb2:b.toNat≤9999999:=by omega
  rcases e with rfl|rfl
  ·obtain ⟨sb,now⟩:=s
   rcases sb with _|⟨hs,s⟩
   ·exact zdc (q:= .ring) hM (by decide) (by decide) (by decide)
   ·obtain ⟨p,Am,cm,hB⟩:=zer hM
    exact zc7 (q:= .ring) (by decide) (by decide) (by decide) (at_asked (.inr (.inr (.inl rfl))) (by decide) (by decide) (by decide) (by decide) (by decide) (by decide) (by decide) (by decide) (by decide) hM fun W1 hb1=>ask_ring (hB.below hb1) hP.1 a.toNat b.toNat ha2 hb2 hN hN2)
  ·unfold zf3
   rw [if_neg (by decide),if_pos rfl]
   exact ans_jump hM a.toNat b.toNat ha2 hb2 hN hN2
 split at hf
 ·rename_i e
  cases hf
  obtain ⟨e1,e2⟩:=zdo (by omega) h1
  obtain ⟨a,rfl⟩:=zev e1
  obtain ⟨z,rfl⟩:=zev (l:=xh) (by omega)
  have ha:=zb3 (List.all_eq_true.1 h3 a List.mem_cons_self)
  obtain ⟨ad,rfl,hN,_⟩:=num_cell hr2 rfl rfl ha.1
  obtain ⟨bd,rfl,hZ⟩:=str_cell hr
  obtain ⟨b,now⟩:=s
  rcases b with _|⟨hs,s⟩
  ·rcases e with rfl|rfl
   ·exact zdc (q:= .look) hM (by decide) (by decide) (by decide)
   ·exact zdc (q:= .drain) hM (by decide) (by decide) (by decide)
  ·obtain ⟨p,Am,cm,hB⟩:=zer hM
   rcases e with rfl|rfl
   ·exact zc7 (q:= .look) (by decide) (by decide) (by decide) (ans_look hB (by omega) z a.toNat hZ hN)
   ·exact zc7 (q:= .drain) (by decide) (by decide) (by decide) (ans_drain hB hP.1 (by omega) z a.toNat hZ hN)
 split at hf
 ·rename_i e
  cases hf
  obtain ⟨e1,e2⟩:=zdo (by omega) h1
  obtain rfl:xn=[]:=List.eq_nil_of_length_eq_zero e1
  obtain rfl:xh=[]:=List.eq_nil_of_length_eq_zero (by omega)
  obtain ⟨b,now⟩:=s
  rcases b with _|⟨hs,s⟩
  ·rcases e with rfl|rfl|rfl
   ·exact zdc (q:= .up) hM (by decide) (by decide) (by decide)
   ·exact zdc (q:= .flows) hM (by decide) (by decide) (by decide)
   ·exact zdc (q:= .exprt) hM (by decide) (by decide) (by decide)
  ·obtain ⟨p,Am,cm,hB⟩:=zer hM
   rcases e with rfl|rfl|rfl
   ·exact zc7 (q:= .up) (by decide) (by decide) (by decide) (ans_up hB hP.1)
   ·exact zc7 (q:= .flows) (by decide) (by decide) (by decide) (ans_flows hB hP.1 hK)
   ·exact zc7 (q:= .exprt) (by decide) (by decide) (by decide) (ans_exprt hB hP.1 (by omega) (Nat.le_trans hP.2 (by omega)))
 ·cases hf
section
variable {w W W':World} {mp n n':Nat} {s:PlS}
theorem zfp.dv (h:zfp w W mp n s):∃o,DvAt W mp o∧∀g,o=some g→g<W.heap.size:=by
 unfold zfp at h
 split at h
 ·exact ⟨none,.inl ⟨h.1.cell 0,rfl⟩,fun g hg=>by cases hg⟩
 ·obtain ⟨p,A,c,h⟩:=h
  obtain ⟨dl,d1,_⟩:=h.r.d
  exact ⟨_,h.dv,fun g hg=>by
   obtain ⟨cs,hC⟩:=zbE d1 hg
   exact hC.lt⟩
theorem zfp.row {v:Value} {k:Nat} {xs:List Value} (h:zfp w W mp n s) (ho:W.ownsRow w.heap.size 9 1 v k xs) (hdv:∀g,v.ownBlock=some g→∀o,DvAt W mp o→o≠some g) (hg:W.grownBy W' v.ownBlock):
 zfp w W' mp n s∧∀o,DvAt W' mp o→DvAt W mp o:=by
 have ht:zam v.ownBlock.toList W W':=zam.zaE hg fun g e=>by rw [e];simp
 have hb:∀b∈v.ownBlock.toList,v.ownBlock=some b∧∃cs,Blk W b 9 cs:=fun b hb=>by
  have e:v.ownBlock=some b:=by simpa using hb
  exact ⟨e,zbE ho e⟩
 unfold zfp at h ⊢
 split
 ·rename_i e
  rw [e] at h
  obtain ⟨h1,h2,h3,h4⟩:=h
  have hm:mp∉v.ownBlock.toList:=fun hm=>by
   obtain ⟨_,cs,hC⟩:=hb _ hm
   exact hC.ne_ h1 (by decide) rfl
  have h1':=ht.blk h1 hm
  refine ⟨⟨h1',h2,h3,h4.trans (ht.below h4.size fun b hm=>own_ge ho (hb b hm).1)⟩,fun o ho'=> ?_⟩
  have hd:DvAt W' mp none:= .inl ⟨h1'.cell 0,rfl⟩
  rw [ho'.uniq hd]
  exact .inl ⟨h1.cell 0,rfl⟩
 ·rename_i hb' e
  rw [e] at h
  obtain ⟨p,A,c,h⟩:=h
  have hm:mp∉v.ownBlock.toList:=fun hm=>by
   obtain ⟨_,cs,hC⟩:=hb _ hm
   exact hC.ne_ h.blk (by decide) rfl
  have hne:∀b∈p.ws,b∉v.ownBlock.toList:=fun b h1 hm=>by
   obtain ⟨_,cs,hC⟩:=hb _ hm
   exact h.r.outS hC (.inl rfl) h1
  have h2:=h.r
  obtain ⟨rs,h3,h4⟩:=h2.h
  obtain ⟨dl,d1,d2,d3⟩:=h2.d
  have h':zdO w W' mp n p A c hb'.1 hb'.2 s.now:=by
   refine ⟨ht.blk h.blk hm,h.tx,⟨ht.blk h2.blk (hne _ (by simp [RBp.ws])),⟨rs,h3.turn ht fun b hb=>hne b (by simp [RBp.ws,hb]),h4⟩,h2.f.away ht (hne _ (by simp [RBp.ws])) fun g hg hm=> ?_,⟨dl,ht.own d1 fun g hg hm=> ?_,d2,d3⟩,h2.b⟩,h.lo,h.sep,h.b.trans (ht.below h.b.size fun b hm=>own_ge ho (hb b hm).1)⟩
   ·obtain ⟨cs,hC⟩:=zbG h2.f.row hg
    obtain ⟨_,cs2,hC2⟩:=hb _ hm
    exact hC.ne_ hC2 (by decide) rfl
   ·exact hdv g (hb _ hm).1 _ h.dv hg
  exact ⟨⟨p,A,c,h'⟩,fun o ho'=>by
   rw [ho'.uniq h'.dv]
   exact h.dv⟩
end
structure zdf (w W:World) (mp n:Nat) (s:PlS) (lv:Value) (lx:List ByteArray) (wv:Value) (wx:List ByteArray):Prop where
 m:zfp w W mp n s
 l:W.ownsRow w.heap.size 9 1 lv lx.length (zak lx)
 r:W.ownsRow w.heap.size 9 1 wv wx.length (zak wx)
 b:Below w.heap.size w W
 s1:∀g,lv.ownBlock=some g→wv.ownBlock≠some g
 s2:∀g,lv.ownBlock=some g→∀o,DvAt W mp o→o≠some g
 s3:∀g,wv.ownBlock=some g→∀o,DvAt W mp o→o≠some g
section
variable {w W W':World} {mp n n':Nat} {s:PlS} {lv wv lv' wv':Value} {lx wx:List ByteArray} {x:ByteArray}
theorem own_ltS {v:Value} {B k:Nat} {xs:List Value} (h:W.ownsRow B 9 1 v k xs) {g:Nat} (hg:v.ownBlock=some g):g<W.heap.size:=by
 obtain ⟨cs,hC⟩:=zbE h hg
 exact hC.lt
theorem zdf.below (h:zdf w W mp n s lv lx wv wx) (hb:Below W.heap.size W W'):zdf w W' mp n s lv lx wv wx:=by
 obtain ⟨o,h1,_⟩:=h.m.dv
 have hu:∀o',DvAt W' mp o'→DvAt W mp o':=fun o' h'=>by rw [h'.uniq (h1.below hb)];exact h1
 exact ⟨h.m.below hb,own_below h.l hb,own_below h.r hb,zaa h.b hb,h.s1,fun g hg o ho=>h.s2 g hg o (hu o ho),fun g hg o ho=>h.s3 g hg o (hu o ho)⟩
theorem zdf.ans {r:(Nat×ByteArray)×PlS} {e:Ending} (h:zdf w W mp n s lv lx wv wx) (ha:zat w mp n' r W e W'):e= .returned (.string (zbX r.1))∧zdf w W' mp n' r.2 lv lx wv wx:=by
 obtain ⟨he,hm,ht,hd⟩:=ha
 obtain ⟨o,h1,_⟩:=h.m.dv
 obtain ⟨o',h2,h3⟩:=hd o h1
 have hs:∀{v:Value} {xs:List ByteArray},W.ownsRow w.heap.size 9 1 v xs.length (zak xs)→(∀g,v.ownBlock=some g→∀o,DvAt W mp o→o≠some g)→∀g,v.ownBlock=some g→∀o,DvAt W' mp o→o≠some g:=fun {v xs} hv hs g hg o2 ho2=>by
  rw [ho2.uniq h2]
  rcases h3 with rfl|h3
  ·exact hs g hg _ h1
  ·intro e2
   have:=h3 g e2
   have:=own_ltS hv hg
   omega
 exact ⟨he,hm,ht.own h.l,ht.own h.r,h.b.trans (ht.below h.b.size),h.s1,hs h.l h.s2,hs h.r h.s3⟩
theorem zdf.appL (h:zdf w W mp n s lv lx wv wx) (h1:W'.ownsRow w.heap.size 9 1 lv' (lx.length+1) (zak lx++[.string x])) (hg:W.grownBy W' lv.ownBlock) (h3:lv'.ownBlock=lv.ownBlock∨lv'.ownBlock=some W.heap.size):zdf w W' mp n s lv' (lx++[x]) wv wx:=by
 obtain ⟨hm,hd⟩:=h.m.row h.l h.s2 hg
 obtain ⟨o,ho,hol⟩:=h.m.dv
 have ht:zam lv.ownBlock.toList W W':=zam.zaE hg fun g e=>by rw [e];simp
 have he:zak (lx++[x])=zak lx++[.string x]:=by simp [zak]
 refine ⟨hm,by rw [he,List.length_append];exact h1,ht.own h.r fun g hg hm=> ?_,za9 h.b h.l hg,fun g hg he=> ?_,fun g hg o' ho'=> ?_,fun g hg o' ho'=>h.s3 g hg o' (hd o' ho')⟩
 ·exact h.s1 g (by simpa using hm) hg
 ·rcases h3 with e|e
  ·exact h.s1 g (by rw [←e];exact hg) he
  ·have:=own_ltS h.r he
   rw [hg] at e
   cases e
   omega
 ·rcases h3 with e|e
  ·exact h.s2 g (by rw [←e];exact hg) o' (hd o' ho')
  ·rw [(hd o' ho').uniq ho]
   intro e2
   have:=hol g e2
   rw [hg] at e
   cases e
   omega
theorem zdf.appW (h:zdf w W mp n s lv lx wv wx) (h1:W'.ownsRow w.heap.size 9 1 wv' (wx.length+1) (zak wx++[.string x])) (hg:W.grownBy W' wv.ownBlock) (h3:wv'.ownBlock=wv.ownBlock∨wv'.ownBlock=some W.heap.size):zdf w W' mp n s lv lx wv' (wx++[x]):=by
 obtain ⟨hm,hd⟩:=h.m.row h.r h.s3 hg
 obtain ⟨o,ho,hol⟩:=h.m.dv
 have ht:zam wv.ownBlock.toList W W':=zam.zaE hg fun g e=>by rw [e];simp
 have he:zak (wx++[x])=zak wx++[.string x]:=by simp [zak]
 refine ⟨hm,ht.own h.l fun g hg hm=> ?_,by rw [he,List.length_append];exact h1,za9 h.b h.r hg,fun g hg he=> ?_,fun g hg o' ho'=>h.s2 g hg o' (hd o' ho'),fun g hg o' ho'=> ?_⟩
 ·exact h.s1 g hg (by simpa using hm)
 ·rcases h3 with e|e
  ·exact h.s1 g hg (by rw [←e];exact he)
  ·have:=own_ltS h.l hg
   rw [he] at e
   cases e
   omega
 ·rcases h3 with e|e
  ·exact h.s3 g (by rw [←e];exact hg) o' (hd o' ho')
  ·rw [(hd o' ho').uniq ho]
   intro e2
   have:=hol g e2
   rw [hg] at e
   cases e
   omega
end
end Go.Proofs.YthkfhfldoniolaaGreatDoor
