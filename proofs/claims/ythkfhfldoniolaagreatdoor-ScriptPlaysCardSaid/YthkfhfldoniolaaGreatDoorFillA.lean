/-
  The reference's ScoreOf; its order by insertion, in plain words. The reference's OrderOf: rivals in order. fill.Cap. Filled evenly, in plain words: the order of all hosts; there is always one with room.
-/
import Derived.Test.YthkfhfldoniolaaGreatDoorRefTables
import Derived.Test.YthkfhfldoniolaaGreatDoorRival
import Derived.Test.YthkfhfldoniolaaGreatDoorLists
import Derived.Test.YthkfhfldoniolaaGreatDoorRinged
set_option maxHeartbeats 4000000
namespace Go.Proofs.YthkfhfldoniolaaGreatDoor
open Go.RowKit Go.Sort
theorem scoreOf_any (s:ByteArray) (key:Nat) (w:World) (hs:s.size≤maxLen) (hk:U64 key):Calls Tryz.prog 76 #[.string s,.int .u64 (key:Int)] w (zcD (score s key) w):=by
 have H1:Hid (Calls Tryz.prog 74 #[.string s,.int .u64 3] w (zcD (ofN s 3) w)):=Lib.hid (zdr s 3 w hs (by unfold U64;omega))
 have H2:Hid (∀W,Calls Tryz.prog 43 #[.int .u64 (ofN s 3:Int)] W (zcD (Mx.turn (ofN s 3)) W)):=Lib.hid (fun W=>zcY (ofN s 3) W (ofN_lt s 3))
 have H3:Hid (∀W,Calls Tryz.prog 43 #[.int .u64 (((BitVec.ofNat 64 (Mx.turn (ofN s 3))^^^BitVec.ofNat 64 key).toNat:Nat):Int)] W (zcD (score s key) W)):=Lib.hid (fun W=>zcY _ W (bv_u64 _))
 have e:bits .xor .u64 ((Mx.turn (ofN s 3):Nat):Int) (key:Int)=(((BitVec.ofNat 64 (Mx.turn (ofN s 3))^^^BitVec.ofNat 64 key).toNat:Nat):Int):=by
  have:=bv_xor (BitVec.ofNat 64 (Mx.turn (ofN s 3))) (BitVec.ofNat 64 key)
  rwa [bv_of _ (turn_u64 _),bv_of _ hk] at this
 unfold zcD at*
 generalize score s key=y at*
 generalize (BitVec.ofNat 64 (Mx.turn (ofN s 3))^^^BitVec.ofNat 64 key).toNat=n7 at*
 generalize Mx.turn (ofN s 3)=n6 at*
 generalize ofN s 3=n1 at*
 clear hs hk
 go_enter Tryz.func76,Tryz.ntmps76
 go_wp2_with fail
 refine H1.out.mono ?_
 rintro e w1 ⟨rfl,rfl⟩
 go_wp2_with fail
 refine (H2.out _).mono ?_
 rintro e w1 ⟨rfl,rfl⟩
 go_wp2_with fail
 refine (H3.out _).mono ?_
 rintro e w1 ⟨rfl,rfl⟩
 go_wp2
 go_ret
 exact ⟨rfl,rfl⟩
def pO (key:Nat) (x y:ByteArray):Bool:= !ltR key x y
def insO (key:Nat) (l:List ByteArray):List ByteArray:=ze6 (pO key) l
theorem insO_len (key:Nat) (l:List ByteArray):(insO key l).length=l.length:=(zdd (pO key) l).length_eq
theorem ltR_asymm {key:Nat} {x y:ByteArray} (h:ltR key x y=true):ltR key y x=false:=by
 cases h2:ltR key y x with
 |false=>rfl
 |true=>
  have:=zfS h h2
  rw [ltR_irrefl] at this
  cases this
theorem insO_sort (key:Nat) (l:List ByteArray):insO key l=zbm key l:=by
 refine IsOrder.unique (key:=key) (l:=l) ⟨zdd (pO key) l, ?_⟩ (zbY key l)
 exact zfM (lt:=ltR key) (fun _ _ _ h1 h2=>ltR_ntrans h1 h2) (fun x y h=>by simpa [pO] using h) (fun x y h=>ltR_asymm (by simpa [pO] using h)) l
theorem insO_next {key:Nat} {l:List ByteArray} {i:Nat} (h:i<l.length):insO key (l.take (i+1))=insP (pO key l[i]) l[i] (insO key (l.take i)):=by
 unfold insO
 rw [List.take_succ_eq_append_getElem h,insAll_snoc]
theorem insO_mem {key:Nat} {l:List ByteArray} {x:ByteArray} (h:x∈insO key l):x∈l:=(zdd (pO key) l).mem_iff.1 h
theorem pO_stop {key:Nat} {x y:ByteArray}:(pO key x y=false)↔(score y key<score x key∨(¬score y key<score x key∧score x key=score y key∧ltB x y=true)):=by
 unfold pO ltR
 by_cases h1:score y key<score x key
 ·simp [h1]
 ·by_cases h2:score x key=score y key
  ·simp [h2]
  ·simp [h2]
theorem pO_go2 {key:Nat} {x y:ByteArray} (h:pO key x y=true):(decide (score y key<score x key)=false∧decide (score x key=score y key)=false)∨(score y key=score x key∧Op.bytesLess x.toList y.toList=false):=by
 have h2:¬(pO key x y=false):=by rw [h];decide
 rw [pO_stop] at h2
 by_cases h3:score x key=score y key
 ·refine .inr ⟨h3.symm, ?_⟩
  rw [Bool.eq_false_iff]
  intro h4
  exact h2 (.inr ⟨by omega,h3,h4⟩)
 ·refine .inl ⟨?_,by simpa using h3⟩
  simp only [decide_eq_false_iff_not]
  exact fun h4=>h2 (.inl h4)
theorem pO_stop2 {key:Nat} {x y:ByteArray} (h:pO key x y=false):decide (score y key<score x key)=true∨(score y key=score x key∧Op.bytesLess x.toList y.toList=true):=by
 rw [pO_stop] at h
 rcases h with h|⟨_,h2,h3⟩
 ·exact .inl (by simpa using h)
 ·exact .inr ⟨h2.symm,h3⟩
theorem lt_casts {a b:Nat} {q:Bool} (h:decide (a<b)=q):decide ((a:Int)<(b:Int))=q:=by rw [←h];simp
theorem eq_casts {a b:Nat} (h:decide (a=b)=false):((a:Int)==(b:Int))=false:=by
 have:¬a=b:=by simpa using h
 exact beq_eq_false_iff_ne.2 (by omega)
set_option maxRecDepth 100000 in
theorem orderOf_any (A:Option Addr) (c:Nat) (l:List ByteArray) (key:Nat) (w:World) (hr:Reads w w.heap.size 1 A l.length (zak l)) (hl:l.length≤30) (hs:∀s∈l,s.size≤maxLen) (hkey:U64 key):Calls Tryz.prog 53 #[.slice A l.length c,.int .u64 (key:Int)] w (zaL (zbm key l) w):=by
 obtain ⟨i0,hi0,hz0,hz1,hz2⟩:=info_parts zb8
 have HP:Hid (∀v w',w'.ownsRow w.heap.size 9 1 v (insO key l).length (zak (insO key l))→Below w.heap.size w w'→zaL (zbm key l) w (.returned v) w'):=Lib.hid fun v w' h1 h2=>by
  rw [insO_sort] at h1
  exact zdp h1 h2
 have HR:=Lib.hid hr
 have HSC:Hid (∀y W,y∈l→Calls Tryz.prog 76 #[.string y,.int .u64 (key:Int)] W (zcD (score y key) W)):=Lib.hid fun y W hy=>scoreOf_any y key W (hs y hy) hkey
 unfold zcD at HSC
 clear hr hs hkey
 go_enter Tryz.func53,Tryz.ntmps53
 go_wp2_with fail
 go_loopw [5,6] (fun ov iv wr=>∃i:Nat,i≤l.length∧iv= .int .i64 (i:Int)∧wr.ownsRow w.heap.size 9 1 ov (insO key (l.take i)).length (zak (insO key (l.take i)))∧Below w.heap.size w wr) (fun _ iv _=>l.length- (intOf iv).toNat)
 case atStart=>exact ⟨0,Nat.zero_le _,rfl,by simp [insO,ze6,zak,zcn],Below.refl _ _⟩
 case round=>
  obtain ⟨i,hi,rfl,hown,hb⟩:=hrel
  by_cases hlt:i<l.length
  ·have hlt2:(i:Int)<l.length:=by omega
   obtain ⟨adl,rfl,hSl⟩:=zdh ((HR.out.below hb).more hb.size) hlt
   have hol:=insO_len key (l.take i)
   rw [List.length_take,Nat.min_eq_left hi] at hol
   have hnx:=insO_next (key:=key) hlt
   have HSl:=Lib.hid hSl
   have HSX:=Lib.hid (HSC.out l[i] wr (List.getElem_mem hlt))
   have HSO:Hid (∀y W,y∈insO key (l.take i)→Calls Tryz.prog 76 #[.string y,.int .u64 (key:Int)] W fun e w'=>e= .returned (.int .u64 (score y key:Int))∧W=w'):=Lib.hid fun y W hy=>HSC.out y W (List.mem_of_mem_take (insO_mem hy))
   generalize l[i]=x at*
   generalize insO key (l.take i)=o at*
   have HNX:=Lib.hid hnx
   have hol2:o.length≤30:=by omega
   have HOL:=Lib.hid hol
   clear hnx hol hSl
   have cx:=HSl.out wr (Below.refl _ _)
   obtain ⟨Ao,co,hov,hro,hoc,_⟩:=zai hown
   subst hov
   obtain ⟨sx,hsx⟩:∃n:Nat,n=score x key:=⟨_,rfl⟩
   rw [←hsx] at HSX
   have HSXE:=Lib.hid hsx
   clear hsx
   go_wp2_with fail
   refine HSX.out.mono ?_
   rintro e w1 ⟨rfl,rfl⟩
   go_wp2_with fail
   go_loopw [7] (fun kv wi=>∃k m:Nat,k≤o.length∧kv= .int .i64 (k:Int)∧wi=wr.drewN m∧Hid (∀y∈o.take k,pO key x y=true)) (fun kv _=>o.length- (intOf kv).toNat)
   case atStart=>exact ⟨0,0,Nat.zero_le _,rfl,rfl,Lib.hid (by simp)⟩
   case round=>
    obtain ⟨k,m,hk,rfl,rfl,hall⟩:=hrel
    by_cases hgo:∃h:k<o.length,pO key x o[k]=true
    ·obtain ⟨hko,hp⟩:=hgo
     obtain ⟨ado,rfl,hco⟩:=zcq hro hko
     have hko2:(k:Int)<o.length:=by omega
     have HA:=Lib.hid (zfx hko hall.out hp)
     have HSY:=Lib.hid (HSO.out o[k] (wr.drewN m) (List.getElem_mem hko))
     have hways:=pO_go2 hp
     rw [←HSXE.out] at hways
     clear hp hall
     generalize o[k]=y at*
     generalize score y key=sy at*
     rcases hways with ⟨d1,d2⟩|⟨d1,q1⟩
     ·have d3:=lt_casts d1
      have d4:=eq_casts d2
      go_wp2_with fail
      refine HSY.out.mono ?_
      rintro e w1 ⟨rfl,rfl⟩
      go_wp2
      go_quiet (fail)
      go_wp2
      go_roundw
      case rel=>exact ⟨k+1,_,by omega,by go_num,rfl,HA⟩
      case measure=>simp [intOf];omega
     ·subst d1
      go_wp2_with fail
      refine HSY.out.mono ?_
      rintro e w1 ⟨rfl,rfl⟩
      go_wp2
      go_quiet (fail)
      go_wp2
      go_roundw
      case rel=>exact ⟨k+1,_,by omega,by go_num,rfl,HA⟩
      case measure=>simp [intOf];omega
    ·have HIns:Hid (insP (pO key x) x o=o.take k++x::o.drop k):=Lib.hid (insP_at hk hall.out fun y hy=>by
      obtain ⟨hko,rfl⟩:=List.getElem?_eq_some_iff.1 hy
      rw [←Bool.not_eq_true]
      exact fun hp=>hgo ⟨hko,hp⟩)
     have HO1:=Lib.hid (fun u (hu:u∈(zak o).take (k*1))=>str_one u (List.mem_of_mem_take hu))
     have HO2:=Lib.hid (fun u (hu:u∈(zak o).drop (k*1))=>str_one u (List.mem_of_mem_drop hu))
     have HFin:Hid (∀(b:Nat) (v:Value) (W:World),w.heap.size≤b→W.ownsRow b 9 1 v (k+1+(o.length-k)) ((zak o).take (k*1)++[.string x]++(zak o).drop (k*1))→W.ownsRow w.heap.size 9 1 v (insO key (l.take (i+1))).length (zak (insO key (l.take (i+1))))):=Lib.hid fun b v W h1 h2=>by
      have h3:=h2.mono h1
      rw [HNX.out,HIns.out]
      have e1:(o.take k++x::o.drop k).length=k+1+(o.length-k):=by simp;omega
      have e2:zak (o.take k++x::o.drop k)=(zak o).take (k*1)++[.string x]++(zak o).drop (k*1):=by simp [zak,List.map_take,List.map_drop]
      rw [e1,e2];exact h3
     have hkc:(k:Int)≤co:=by omega
     have hkn:(k:Int)≤o.length:=by omega
     have hway:((k:Int)<o.length∧∃(ado:Addr) (y:ByteArray) (sy:Nat),Ao=some ado∧wr.cell? (ado.add k)=some (.string y)∧Hid (Calls Tryz.prog 76 #[.string y,.int .u64 (key:Int)] (wr.drewN m) fun e w'=>e= .returned (.int .u64 (sy:Int))∧wr.drewN m=w')∧(decide (sy<sx)=true∨(sy=sx∧Op.bytesLess x.toList y.toList=true)))∨¬((k:Int)<o.length):=by
      by_cases hko:k<o.length
      ·obtain ⟨ado,hA,hco⟩:=zcq hro hko
       refine .inl ⟨by omega,ado,o[k],score o[k] key,hA,hco,Lib.hid (HSO.out o[k] (wr.drewN m) (List.getElem_mem hko)), ?_⟩
       rw [HSXE.out]
       refine pO_stop2 ?_
       rw [←Bool.not_eq_true]
       exact fun hp=>hgo ⟨hko,hp⟩
      ·exact .inr (by omega)
     clear hgo hall HSO HSC
     cases hAo:Ao with
     |none=>
      subst hAo
      have ho0:o=[]:=by
       rcases hown.2 with ⟨_,h0⟩|⟨g,cap,cur,hv,_⟩
       ·exact List.eq_nil_of_length_eq_zero h0
       ·injection hv with h1;cases h1
      have hco0:co=0:=by
       rcases hown.2 with ⟨hv,_⟩|⟨g,cap,cur,hv,_⟩
       ·injection hv
       ·injection hv with h1;cases h1
      subst ho0
      subst hco0
      obtain rfl:k=0:=by simpa using hk
      clear hway
      have hb2:=below_drewN (Below.refl wr.heap.size wr) m
      have hb0:=zaa hb hb2
      have hro2:Reads (wr.drewN m) (wr.drewN m).heap.size 1 (none) 0 (zak []):=hro
      generalize wr.drewN m=wd at*
      have HRO:=Lib.hid hro2
      have HR1:Hid (∀W,Below wd.heap.size wd W→Reads W W.heap.size 1 (none) 0 ((zak []).take (0*1))):=Lib.hid fun W hW=>((HRO.out.below hW).more hW.size).take2 (Nat.le_refl 0)
      have HR2:Hid (∀W,Below wd.heap.size wd W→Reads W W.heap.size 1 (none) (0-0) ((zak []).drop (0*1))):=Lib.hid fun W hW=>Reads.none_
      have HFb:=Lib.hid hb0.size
      clear hro2 hb0
      go_wp2_with (first
       |(at_builtin
         refine zac _ rfl (.tmp 54) (.tmp 57) _ rfl wd.heap.size 9 i0 _ 1 16 Tryz.underlying24 hi0 hz0 hz1 hz2 rfl (by omega) (.slice none 0 0) 0 [] rfl (zcn _ _ _) wd.heap.size (none) 0 0 _ rfl (HR1.out _ (Below.refl _ _)) HO1.out (by simp only [maxLen];omega) (by omega) (Nat.le_refl _) ?_
         intro v1 w3 hown3 hg3 _
         simp only [Nat.zero_add,List.nil_append] at hown3
         have hb3:=(Below.refl wd.heap.size wd).grown hg3 (Nat.le_refl _) (by simp [Value.ownBlock])
         have HO3:=Lib.hid hown3
         have cx3:=HSl.out w3 (zaa hb2 hb3)
         clear hown3 hg3)
       |(at_builtin
         refine wpList_append_own _ rfl (.tmp 59) (.tmp 64) 24 rfl wd.heap.size 9 i0 (.string ⟨#[]⟩) 1 16 Tryz.underlying24 hi0 hz0 hz1 hz2 rfl (by decide) _ _ _ rfl (HO3.out.alloc _) ⟨w3.heap.size,0,none⟩ 1 1 [.string x] rfl rfl (cell_one_new _ _ _) (by simp [Value.oneCell']) (by simp only [maxLen];omega) (by omega) (zbi hb3) ?_
         intro v2 w4 hown4 hg4 _
         have hb4:=zbg hb3 HO3.out hg4
         have HO4:=Lib.hid hown4
         clear hown4 hg4)
       |(at_builtin
         go_must (refine zac _ rfl (.tmp 66) (.tmp 69) _ rfl wd.heap.size 9 i0 _ 1 16 Tryz.underlying24 hi0 hz0 hz1 hz2 rfl (by omega) _ (0+1) _ rfl HO4.out w4.heap.size _ (0-0) (0-0) _ rfl (HR2.out _ hb4) HO2.out (by simp only [maxLen];omega) (by omega) hb4.size ?_)
         intro v3 w5 hown5 hg5 _
         have hb5:=za9 hb4 HO4.out hg5
         have HO5:=Lib.hid (HFin.out _ v3 w5 HFb.out hown5)
         clear hown5 hg5)
       |fail)
      all_goals
       have hbf:=zaa (zaa hb hb2) hb5
       go_roundw
       case rel=>exact ⟨i+1,by omega,by go_num,HO5.out,hbf⟩
       case measure=>simp [intOf];omega
     |some ado=>
      subst hAo
      rcases hway with ⟨d2,ado',y,sy,hA,cy,HSY,d1|⟨d1,q1⟩⟩|d2
      ·obtain rfl:=Option.some.inj hA
       have d3:=lt_casts d1
       go_wp2_with fail
       refine HSY.out.mono ?_
       rintro e w1 ⟨rfl,rfl⟩
       go_wp2
       go_quiet (fail)
       have hb2:=below_drewN (below_drewN (Below.refl wr.heap.size wr) m) nq
       have hb0:=zaa hb hb2
       have hro2:Reads ((wr.drewN m).drewN nq) ((wr.drewN m).drewN nq).heap.size 1 (some ado) o.length (zak o):=hro
       generalize (wr.drewN m).drewN nq=wd at*
       have HRO:=Lib.hid hro2
       have HR1:Hid (∀W,Below wd.heap.size wd W→Reads W W.heap.size 1 (some ado) k ((zak o).take (k*1))):=Lib.hid fun W hW=>((HRO.out.below hW).more hW.size).take2 hk
       have HR2:Hid (∀W,Below wd.heap.size wd W→Reads W W.heap.size 1 (some (ado.add k)) (o.length-k) ((zak o).drop (k*1))):=Lib.hid fun W hW=>by
        have:=((HRO.out.below hW).more hW.size).cut (k:=k) hk hoc
        rw [if_neg (by omega)] at this
        simpa using this
       have HFb:=Lib.hid hb0.size
       clear hro2 hb0
       go_wp2_with (first
        |(at_builtin
          refine zac _ rfl (.tmp 54) (.tmp 57) _ rfl wd.heap.size 9 i0 _ 1 16 Tryz.underlying24 hi0 hz0 hz1 hz2 rfl (by omega) (.slice none 0 0) 0 [] rfl (zcn _ _ _) wd.heap.size (some ado) k co _ rfl (HR1.out _ (Below.refl _ _)) HO1.out (by simp only [maxLen];omega) (by omega) (Nat.le_refl _) ?_
          intro v1 w3 hown3 hg3 _
          simp only [Nat.zero_add,List.nil_append] at hown3
          have hb3:=(Below.refl wd.heap.size wd).grown hg3 (Nat.le_refl _) (by simp [Value.ownBlock])
          have HO3:=Lib.hid hown3
          have cx3:=HSl.out w3 (zaa hb2 hb3)
          clear hown3 hg3)
        |(at_builtin
          refine wpList_append_own _ rfl (.tmp 59) (.tmp 64) 24 rfl wd.heap.size 9 i0 (.string ⟨#[]⟩) 1 16 Tryz.underlying24 hi0 hz0 hz1 hz2 rfl (by decide) _ _ _ rfl (HO3.out.alloc _) ⟨w3.heap.size,0,none⟩ 1 1 [.string x] rfl rfl (cell_one_new _ _ _) (by simp [Value.oneCell']) (by simp only [maxLen];omega) (by omega) (zbi hb3) ?_
          intro v2 w4 hown4 hg4 _
          have hb4:=zbg hb3 HO3.out hg4
          have HO4:=Lib.hid hown4
          clear hown4 hg4)
        |(at_builtin
          go_must (refine zac _ rfl (.tmp 66) (.tmp 69) _ rfl wd.heap.size 9 i0 _ 1 16 Tryz.underlying24 hi0 hz0 hz1 hz2 rfl (by omega) _ (k+1) _ rfl HO4.out w4.heap.size _ (o.length-k) (co-k) _ rfl (HR2.out _ hb4) HO2.out (by simp only [maxLen];omega) (by omega) hb4.size ?_)
          intro v3 w5 hown5 hg5 _
          have hb5:=za9 hb4 HO4.out hg5
          have HO5:=Lib.hid (HFin.out _ v3 w5 HFb.out hown5)
          clear hown5 hg5)
        |fail)
       all_goals
        have hbf:=zaa (zaa hb hb2) hb5
        go_roundw
        case rel=>exact ⟨i+1,by omega,by go_num,HO5.out,hbf⟩
        case measure=>simp [intOf];omega
      ·obtain rfl:=Option.some.inj hA
       subst d1
       go_wp2_with fail
       refine HSY.out.mono ?_
       rintro e w1 ⟨rfl,rfl⟩
       go_wp2
       go_quiet (fail)
       have hb2:=below_drewN (below_drewN (Below.refl wr.heap.size wr) m) nq
       have hb0:=zaa hb hb2
       have hro2:Reads ((wr.drewN m).drewN nq) ((wr.drewN m).drewN nq).heap.size 1 (some ado) o.length (zak o):=hro
       generalize (wr.drewN m).drewN nq=wd at*
       have HRO:=Lib.hid hro2
       have HR1:Hid (∀W,Below wd.heap.size wd W→Reads W W.heap.size 1 (some ado) k ((zak o).take (k*1))):=Lib.hid fun W hW=>((HRO.out.below hW).more hW.size).take2 hk
       have HR2:Hid (∀W,Below wd.heap.size wd W→Reads W W.heap.size 1 (some (ado.add k)) (o.length-k) ((zak o).drop (k*1))):=Lib.hid fun W hW=>by
        have:=((HRO.out.below hW).more hW.size).cut (k:=k) hk hoc
        rw [if_neg (by omega)] at this
        simpa using this
       have HFb:=Lib.hid hb0.size
       clear hro2 hb0
       go_wp2_with (first
        |(at_builtin
          refine zac _ rfl (.tmp 54) (.tmp 57) _ rfl wd.heap.size 9 i0 _ 1 16 Tryz.underlying24 hi0 hz0 hz1 hz2 rfl (by omega) (.slice none 0 0) 0 [] rfl (zcn _ _ _) wd.heap.size (some ado) k co _ rfl (HR1.out _ (Below.refl _ _)) HO1.out (by simp only [maxLen];omega) (by omega) (Nat.le_refl _) ?_
          intro v1 w3 hown3 hg3 _
          simp only [Nat.zero_add,List.nil_append] at hown3
          have hb3:=(Below.refl wd.heap.size wd).grown hg3 (Nat.le_refl _) (by simp [Value.ownBlock])
          have HO3:=Lib.hid hown3
          have cx3:=HSl.out w3 (zaa hb2 hb3)
          clear hown3 hg3)
        |(at_builtin
          refine wpList_append_own _ rfl (.tmp 59) (.tmp 64) 24 rfl wd.heap.size 9 i0 (.string ⟨#[]⟩) 1 16 Tryz.underlying24 hi0 hz0 hz1 hz2 rfl (by decide) _ _ _ rfl (HO3.out.alloc _) ⟨w3.heap.size,0,none⟩ 1 1 [.string x] rfl rfl (cell_one_new _ _ _) (by simp [Value.oneCell']) (by simp only [maxLen];omega) (by omega) (zbi hb3) ?_
          intro v2 w4 hown4 hg4 _
          have hb4:=zbg hb3 HO3.out hg4
          have HO4:=Lib.hid hown4
          clear hown4 hg4)
        |(at_builtin
          go_must (refine zac _ rfl (.tmp 66) (.tmp 69) _ rfl wd.heap.size 9 i0 _ 1 16 Tryz.underlying24 hi0 hz0 hz1 hz2 rfl (by omega) _ (k+1) _ rfl HO4.out w4.heap.size _ (o.length-k) (co-k) _ rfl (HR2.out _ hb4) HO2.out (by simp only [maxLen];omega) (by omega) hb4.size ?_)
          intro v3 w5 hown5 hg5 _
          have hb5:=za9 hb4 HO4.out hg5
          have HO5:=Lib.hid (HFin.out _ v3 w5 HFb.out hown5)
          clear hown5 hg5)
        |fail)
       all_goals
        have hbf:=zaa (zaa hb hb2) hb5
        go_roundw
        case rel=>exact ⟨i+1,by omega,by go_num,HO5.out,hbf⟩
        case measure=>simp [intOf];omega
      ·skip
       have hb2:=below_drewN (Below.refl wr.heap.size wr) m
       have hb0:=zaa hb hb2
       have hro2:Reads (wr.drewN m) (wr.drewN m).heap.size 1 (some ado) o.length (zak o):=hro
       generalize wr.drewN m=wd at*
       have HRO:=Lib.hid hro2
       have HR1:Hid (∀W,Below wd.heap.size wd W→Reads W W.heap.size 1 (some ado) k ((zak o).take (k*1))):=Lib.hid fun W hW=>((HRO.out.below hW).more hW.size).take2 hk
       have HR2:Hid (∀W,Below wd.heap.size wd W→Reads W W.heap.size 1 (if co=k then some ado else some (ado.add k)) (o.length-k) ((zak o).drop (k*1))):=Lib.hid fun W hW=>by
        have:=((HRO.out.below hW).more hW.size).cut (k:=k) hk hoc
        simpa using this
       have HFb:=Lib.hid hb0.size
       clear hro2 hb0
       go_wp2_with (first
        |(at_builtin
          refine zac _ rfl (.tmp 54) (.tmp 57) _ rfl wd.heap.size 9 i0 _ 1 16 Tryz.underlying24 hi0 hz0 hz1 hz2 rfl (by omega) (.slice none 0 0) 0 [] rfl (zcn _ _ _) wd.heap.size (some ado) k co _ rfl (HR1.out _ (Below.refl _ _)) HO1.out (by simp only [maxLen];omega) (by omega) (Nat.le_refl _) ?_
          intro v1 w3 hown3 hg3 _
          simp only [Nat.zero_add,List.nil_append] at hown3
          have hb3:=(Below.refl wd.heap.size wd).grown hg3 (Nat.le_refl _) (by simp [Value.ownBlock])
          have HO3:=Lib.hid hown3
          have cx3:=HSl.out w3 (zaa hb2 hb3)
          clear hown3 hg3)
        |(at_builtin
          refine wpList_append_own _ rfl (.tmp 59) (.tmp 64) 24 rfl wd.heap.size 9 i0 (.string ⟨#[]⟩) 1 16 Tryz.underlying24 hi0 hz0 hz1 hz2 rfl (by decide) _ _ _ rfl (HO3.out.alloc _) ⟨w3.heap.size,0,none⟩ 1 1 [.string x] rfl rfl (cell_one_new _ _ _) (by simp [Value.oneCell']) (by simp only [maxLen];omega) (by omega) (zbi hb3) ?_
          intro v2 w4 hown4 hg4 _
          have hb4:=zbg hb3 HO3.out hg4
          have HO4:=Lib.hid hown4
          clear hown4 hg4)
        |(at_builtin
          go_must (refine zac _ rfl (.tmp 66) (.tmp 69) _ rfl wd.heap.size 9 i0 _ 1 16 Tryz.underlying24 hi0 hz0 hz1 hz2 rfl (by omega) _ (k+1) _ rfl HO4.out w4.heap.size _ (o.length-k) (co-k) _ rfl (HR2.out _ hb4) HO2.out (by simp only [maxLen];omega) (by omega) hb4.size ?_)
          intro v3 w5 hown5 hg5 _
          have hb5:=za9 hb4 HO4.out hg5
          have HO5:=Lib.hid (HFin.out _ v3 w5 HFb.out hown5)
          clear hown5 hg5)
        |fail)
       all_goals
        have hbf:=zaa (zaa hb hb2) hb5
        go_roundw
        case rel=>exact ⟨i+1,by omega,by go_num,HO5.out,hbf⟩
        case measure=>simp [intOf];omega
  ·have hlt2:¬((i:Int)<l.length):=by omega
   have hil:i=l.length:=by omega
   have HT:Hid (l.take i=l):=Lib.hid (by rw [hil,List.take_length])
   rw [HT.out] at hown
   have HO:=Lib.hid (HP.out _ _ hown hb)
   clear hil hown
   go_wp2
   go_ret
   exact HO.out
end Go.Proofs.YthkfhfldoniolaaGreatDoor
namespace Go.Proofs.YthkfhfldoniolaaGreatDoor
open Go.RowKit
end Go.Proofs.YthkfhfldoniolaaGreatDoor
namespace Go.Proofs.YthkfhfldoniolaaGreatDoor
theorem nodup_len {α:Type} [DecidableEq α]:∀{o l:List α},o.Nodup→(∀x∈o,x∈l)→o.length≤l.length
 |[],_,_,_=>Nat.zero_le _
 |a::o,l,hn,hs=>by
   have ha:=hs a (List.mem_cons_self)
   obtain ⟨h1,h2⟩:=List.nodup_cons.1 hn
   have h3:=nodup_len (l:=l.erase a) h2 fun x hx=>(List.mem_erase_of_ne (fun e=>h1 (by rw [←e];exact hx))).2 (hs x (List.mem_cons_of_mem _ hx))
   rw [List.length_erase_of_mem ha] at h3
   have h4:=List.length_pos_of_mem ha
   simp only [List.length_cons];omega
theorem count_split (n:Nat):∀xs:List Nat,(xs.filter fun x=>x !=n).length+xs.count n=xs.length
 |[]=>rfl
 |x::xs=>by
   have ih:=count_split n xs
   by_cases h:x=n
   ·subst h;simp;omega
   ·have h2:(x !=n)=true:=by simpa using h
    simp [h];omega
theorem room:∀(n most:Nat) (xs:List Nat),(∀j,j<n→most≤xs.count j)→n*most≤xs.length
 |0,_,_,_=>by simp
 |n+1,most,xs,h=>by
   have h1:=room n most (xs.filter fun x=>x !=n) fun j hj=>by
    rw [List.count_filter (by simp;omega)]
    exact h j (by omega)
   have h2:=h n (by omega)
   have h3:=count_split n xs
   rw [Nat.succ_mul];omega
end Go.Proofs.YthkfhfldoniolaaGreatDoor
