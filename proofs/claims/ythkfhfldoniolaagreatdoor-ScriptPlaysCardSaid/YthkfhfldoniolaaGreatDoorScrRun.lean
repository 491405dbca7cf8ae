/-
  Package script: play, any line. Package script: an error's bare one, its text. Package script: Run. An append's block: the old one, or new. Package script: Run, whole.
-/
import Derived.Test.YthkfhfldoniolaaGreatDoorPlayA
import Derived.Test.YthkfhfldoniolaaGreatDoorScrPlay3d
import Derived.Test.YthkfhfldoniolaaGreatDoorScrPlay4b
import Derived.Test.YthkfhfldoniolaaGreatDoorScrPlay4d
import Derived.Test.YthkfhfldoniolaaGreatDoorScrAct
import Derived.Test.YthkfhfldoniolaaGreatDoorCodeA
set_option maxHeartbeats 1000000
namespace Go.Proofs.YthkfhfldoniolaaGreatDoor
open Go.RowKit
section
variable {av:Nat→Prop} {ea:Nat→Addr} {w W W':World} {pp k:Nat} {s:PlS} {line c:ByteArray} {t:List ByteArray} {q:Cmd}
theorem zeq (n1:c≠zav) (n2:c≠zaP) (hc:zfV c=some q):zch s c t=match zaY q.form t with
 |none=>((1,⟨#[]⟩),s)
 |some w=>if q.form=[104,110]∧1<w.n.getD 0 0 then ((1,⟨#[]⟩),s)
  else match s.b with
   |none=>((5,⟨#[]⟩),s)
   |some hb=>zaJ q w hb.1 hb.2 s.now:=by
 unfold zch
 rw [if_neg n1,if_neg n2,hc]
 rfl
theorem play_cmd (hE:zbO ea w) (hP:zaX av ea w W pp k s) (hW:zdz w) (hK:zcp ea w) (hk:k≤1000) (hs:line.size≤100000) (hl:zaI line=c::t) (n1:c≠zav) (n2:c≠zaP) (hc:zbZ c=some q∨(zbZ c=none∧zea c=some q)):
 Calls Tryz.prog 28 #[.pointer (some ⟨pp,0,none⟩),.string line] W (zae av ea w pp (k+1) (zch s c t) W):=by
 have hcq:zfV c=some q:=by
  rw [←ask_act c]
  rcases hc with h|⟨h,h2⟩
  ·rw [h]
  ·rw [h];exact h2
 rw [zeq n1 n2 hcq]
 cases hr:zaY q.form t with
 |none=>
  rcases hc with h|⟨h,h2⟩
  ·exact ask_k0 hP hW hK hs hl n1 n2 h hr
  ·exact act_k0 hP hW hK hs hl n1 n2 h h2 hr
 |some x=>
  dsimp only
  by_cases hh:q.form=[104,110]
  ·obtain ⟨z,n0,rfl⟩:=readS_hn (by rw [←hh];exact hr)
   rw [show (⟨[z],[n0]⟩:Wd).n.getD 0 0=n0 from rfl]
   by_cases hn0:1<n0
   ·rw [if_pos ⟨hh,hn0⟩]
    rcases hc with h|⟨h,h2⟩
    ·exact ask_k1 hP hW hK hs hl n1 n2 h hr hh hn0
    ·exact act_k1 hP hW hK hs hl n1 n2 h h2 hr hh hn0
   ·rw [if_neg (fun h=>hn0 h.2)]
    cases hsb:s.b with
    |none=>
     rcases hc with h|⟨h,h2⟩
     ·exact ask_k2T hP hW hs hl n1 n2 h hr hh hn0 hsb
     ·exact act_k2T hP hW hs hl n1 n2 h h2 hr hh hn0 hsb
    |some hb=>
     rcases hc with h|⟨h,h2⟩
     ·exact ask_k3T hE hP hW hK hk hs hl n1 n2 h hr hh hn0 hsb
     ·exact act_k3T hE hP hW hK hk hs hl n1 n2 h h2 hr hh hn0 hsb
  ·rw [if_neg (fun h=>hh h.1)]
   cases hsb:s.b with
   |none=>
    rcases hc with h|⟨h,h2⟩
    ·exact ask_k2F hP hW hs hl n1 n2 h hr hh hsb
    ·exact act_k2F hP hW hs hl n1 n2 h h2 hr hh hsb
   |some hb=>
    rcases hc with h|⟨h,h2⟩
    ·exact ask_k3F hE hP hW hK hk hs hl n1 n2 h hr hh hsb
    ·exact act_k3F hE hP hW hK hk hs hl n1 n2 h h2 hr hh hsb
set_option maxRecDepth 100000 in
theorem play_none (hP:zaX av ea w W pp k s) (hW:zdz w) (hK:zcp ea w) (hs:line.size≤100000) (hl:zaI line=c::t) (n1:c≠zav) (n2:c≠zaP) (han:zbZ c=none) (haq:zea c=none):
 Calls Tryz.prog 28 #[.pointer (some ⟨pp,0,none⟩),.string line] W (zae av ea w pp (k+1) ((1,⟨#[]⟩),s) W):=by
 obtain ⟨_,hw,hEW,hpl⟩:=hP.base
 have hCW:=hW.below hw
 obtain ⟨tc,t2,t3⟩:=zaK hl hs
 have HS:=Lib.hid (zaT hl (by omega) W hCW)
 unfold zcL at HS
 have HB0:=Lib.hid (fun (w1 w2:World) (g:Nat) (hB:Blk w1 g 9 (zak (c::t)).toArray) (hb:Below w1.heap.size w1 w2)=>zbx hB hb)
 have n1':(c.toList==[104,111,115,116,115])=false:=zao n1
 have n2':(c.toList==[106,117,109,112])=false:=zao n2
 have HA:=Lib.hid (fun w1=>zbS w1)
 have HA7:=Lib.hid (fun w1=>zdX w1)
 unfold zbs at HA HA7
 have HL0:=Lib.hid (fun (w2:World) (b:Nat) (hm:za0 b 4 zbZ w2)=>zey hm (by unfold maxLen;omega) han)
 have HL:=Lib.hid (fun (w2:World) (b:Nat) (hm:za0 b 7 zea w2)=>zey hm (by unfold maxLen;omega) haq)
 have HQ:Hid (∀w1,Below W.heap.size W w1→zae av ea w pp (k+1) ((1,⟨#[]⟩),s) W (.returned (.tuple #[.string ⟨#[]⟩,.iface 355 (.pointer (some (ea (gv 1))))])) w1):=Lib.hid fun w1 hb=>zem (za1 (by simp)) hP hb
 have HC:Hid (∀w1,Below W.heap.size W w1→w1.cell? ⟨1,0,none⟩=some (.iface 355 (.pointer (some (ea (gv 1)))))):=Lib.hid fun w1 hb=>(hK.below (zaa hw hb)).c1
 generalize zae av ea w pp (k+1) ((1,⟨#[]⟩),s) W=PQ at*
 have hsn:=fun (W:World) (a:Addr) (m:Mode)=>run_store Tryz.prog W a .nilFunc m rfl
 clear hP hW hK hs hl hw hEW hpl hCW t2 t3 tc n1 n2 han haq
 go_enter Tryz.func28,Tryz.ntmps28
 go_wp2_with fail
 refine HS.out.mono ?_
 rintro e w1 ⟨g,rfl,hb1,hB1⟩
 have c0:=HB0.out w1 w1 g hB1 (Below.refl _ _)
 have HB:=Lib.hid (fun w2=>HB0.out w1 w2 g hB1)
 have HB1:=Lib.hid hb1
 have hg1:=hB1.lt
 generalize t.length=m at*
 clear hb1 hB1 HB0 HS
 go_wp2_with fail
 go_region_held3 (fun w'=>w'.cell? ⟨g,0,none⟩=some (.string c)) (first|exact hS2|exact hS3|exact c0|go_keep) (first
  |(go_at_call 58
    refine (HA.out _).mono ?_
    rintro e w2 ⟨b,rfl,hm,hb2⟩
    have hlk:=HL0.out w2 b hm
    have hlk2:=HL0.out _ b (hm.below ((Below.refl w2.heap.size w2).alloc (Nat.le_refl _) (.cells #[.string ⟨#[]⟩,.nilFunc] 117)))
    first
     |(have hb3:Below w1.heap.size w1 w2:=zab hb2
       have hS2:=HB.out w2 hb3
       have HX:Hid (Below w1.heap.size w1 (w2.alloc (.cells #[.string ⟨#[]⟩,.nilFunc] 117))∧Blk (w2.alloc (.cells #[.string ⟨#[]⟩,.nilFunc] 117)) w2.heap.size 117 #[.string ⟨#[]⟩,.nilFunc]):=Lib.hid ⟨zaa hb3 ((Below.refl _ _).alloc (Nat.le_refl _) _),Blk.new _ _ _⟩
       have hge:=hb3.size
       clear hb3)
     |(have hz:=Blk.new w1.drew 117 #[.string ⟨#[]⟩,.nilFunc]
       have hb3:Below w1.heap.size w1 w2:=zab (zaa ((Below.refl w1.drew.heap.size w1.drew).alloc (Nat.le_refl _) (.cells #[.string ⟨#[]⟩,.nilFunc] 117)) hb2)
       have hS2:=HB.out w2 hb3
       have hz2:Blk w2 w1.heap.size 117 #[.string ⟨#[]⟩,.nilFunc]:=hz.below hb2 hz.lt
       have q0:=hz2.cell 0
       have q1:=hz2.cell 1
       have z0:=hz2.frozen 0
       have z1:=hz2.frozen 1
       have HX:Hid (Below w1.heap.size w1 ((w2.setCell ⟨w1.heap.size,0,none⟩ (.string ⟨#[]⟩)).setCell ⟨w1.heap.size,1,none⟩ .nilFunc)∧Blk ((w2.setCell ⟨w1.heap.size,0,none⟩ (.string ⟨#[]⟩)).setCell ⟨w1.heap.size,1,none⟩ .nilFunc) w1.heap.size 117 #[.string ⟨#[]⟩,.nilFunc]):=Lib.hid ⟨(hb3.setCell (p:=⟨w1.heap.size,0,none⟩) (Nat.le_refl _) _).setCell (p:=⟨w1.heap.size,1,none⟩) (Nat.le_refl _) _,(hz2.zbk 0 _).zbk 1 _⟩
       have hS3:=HB.out _ HX.out.1
       clear hz hb3 hz2)
    clear hm hb2))
 all_goals first
  |(obtain ⟨W2,hW2⟩:∃W2,W2=w2.alloc (.cells #[.string ⟨#[]⟩,.nilFunc] 117):=⟨_,rfl⟩
    rw [←hW2] at HX
    rw [←hW2]
    clear hW2
    obtain ⟨h3,k3⟩:=HX.out
    have HB2:=Lib.hid h3
    have HK2:=Lib.hid k3
    have HG3:Hid (w1.heap.size≤w2.heap.size):=Lib.hid hge
    clear hS2 HX h3 k3 c0 hlk hlk2 HA HL0 hge
    generalize w2.heap.size=g3 at*)
  |(obtain ⟨W2,hW2⟩:∃W2,W2=(w2.setCell ⟨w1.heap.size,0,none⟩ (.string ⟨#[]⟩)).setCell ⟨w1.heap.size,1,none⟩ .nilFunc:=⟨_,rfl⟩
    rw [←hW2] at HX
    rw [←hW2]
    clear hW2
    obtain ⟨h3,k3⟩:=HX.out
    have HB2:=Lib.hid h3
    have HK2:=Lib.hid k3
    clear hS2 hS3 HX h3 k3 c0 hlk hlk2 HA HL0 q0 q1 z0 z1
    generalize hg3:w1.heap.size=g3 at HK2 ⊢
    have HG3:Hid (w1.heap.size≤g3):=Lib.hid (Nat.le_of_eq hg3)
    clear hg3)
 all_goals
  have c2:=HB.out W2 HB2.out
  have hg2:g<W2.heap.size:=Nat.lt_of_lt_of_le hg1 HB2.out.size
  go_wp2_with fail
  go_region_held3 (fun w'=>w'.cell? ⟨g,0,none⟩=some (.string c)) (first|exact hS2|exact hS3|exact c2|go_keep) (first
   |(go_at_call 59
     refine (HA7.out _).mono ?_
     rintro e w3 ⟨b3,rfl,hm,hb3⟩
     have hlk:=HL.out w3 b3 hm
     have hb4:Below w1.heap.size w1 w3:=zaa HB2.out (zab hb3)
     have hS2:=HB.out w3 hb4
     have hz:=HK2.out.below (zab hb3) HK2.out.lt
     have q0:=hz.cell 0
     have q1:=hz.cell 1
     have z0:=hz.frozen 0
     have z1:=hz.frozen 1
     have HX:Hid (Below w1.heap.size w1 ((w3.setCell ⟨g3,0,none⟩ (.string ⟨#[]⟩)).setCell ⟨g3,1,none⟩ .nilFunc)):=Lib.hid ((hb4.setCell (p:=⟨g3,0,none⟩) HG3.out _).setCell (p:=⟨g3,1,none⟩) HG3.out _)
     have hS3:=HB.out _ HX.out
     clear hm hb3 hb4 hz))
 all_goals
  obtain ⟨W3,hW3⟩:∃W3,W3=(w3.setCell ⟨g3,0,none⟩ (.string ⟨#[]⟩)).setCell ⟨g3,1,none⟩ .nilFunc:=⟨_,rfl⟩
  rw [←hW3] at HX
  rw [←hW3]
  clear hW3
  have HQ1:=Lib.hid (HQ.out W3.drew (zad (zaa HB1.out HX.out)))
  have e1:=HC.out W3 (zaa HB1.out HX.out)
  clear hS2 hS3 HX HB HB1 hg1 hg2 c2 hlk HA7 HL q0 q1 z0 z1 HB2 HK2 HG3 HQ HC hsn
  go_wp2_with fail
  go_region
  go_wp2
  exact HQ1.out
theorem play_any (hav:∀g,av g→g<W.heap.size) (hE:zbO ea w) (hP:zaX av ea w W pp k s) (hW:zdz w) (hK:zcp ea w) (hk:k≤1000) (hs:line.size≤100000):
 Calls Tryz.prog 28 #[.pointer (some ⟨pp,0,none⟩),.string line] W (zae av ea w pp (k+1) (zcu s line) W):=by
 obtain ⟨c,t,hl⟩:=words_split line
 have e:zcu s line=zch s c t:=by unfold zcu;rw [hl];rfl
 rw [e]
 by_cases n1:c=zav
 ·subst n1
  exact play_hosts hav hE hP hW hK hs hl
 by_cases n2:c=zaP
 ·subst n2
  exact play_jump hE hP hW hK hs hl
 cases h1:zbZ c with
 |some q=>exact play_cmd hE hP hW hK hk hs hl n1 n2 (.inl h1)
 |none=>
  cases h2:zea c with
  |some q=>exact play_cmd hE hP hW hK hk hs hl n1 n2 (.inr ⟨h1,h2⟩)
  |none=>
   have hcq:zfV c=none:=by
    rw [←ask_act c,h1]
    exact h2
   have e2:zch s c t=((1,⟨#[]⟩),s):=by
    unfold zch
    rw [if_neg n1,if_neg n2,hcq]
   rw [e2]
   exact play_none hP hW hK hs hl n1 n2 h1 h2
end
end Go.Proofs.YthkfhfldoniolaaGreatDoor
namespace Go.Proofs.YthkfhfldoniolaaGreatDoor
open Go.RowKit
set_option maxRecDepth 100000 in
theorem error_any (a:Addr) (s:ByteArray) (w:World) (h:w.cell? a=some (.string s)):Calls Tryz.prog 351 #[.pointer (some a)] w fun e w'=>e= .returned (.string s)∧w=w':=by
 go_enter Tryz.func351,Tryz.ntmps351
 go_wp2
 go_ret
 exact ⟨rfl,rfl⟩
set_option maxRecDepth 100000 in
theorem bareErr_any {ea:Nat→Addr} {f:Flt} {t:TypeId} {a:Addr} (w:World) (hg:zbK w) (hI:zd9 ea w f t a):
 Calls Tryz.prog 29 #[.iface t (.pointer (some a))] w fun e w'=>e= .returned (.iface 355 (.pointer (some (ea (gv f.code)))))∧Below w.heap.size w w':=by
 have hb0:=(Below.refl w.heap.size w).alloc (Nat.le_refl _) (.cells #[.pointer none] 121)
 have hk:=Blk.new w 121 #[.pointer none]
 have hc:=hk.cell 0
 have hz:=hk.frozen 0
 have hg1:=hg.below hb0
 cases hp:f.place with
 |none=>
  unfold zd9 at hI
  rw [hp] at hI
  obtain ⟨rfl,rfl⟩:=hI
  have HA:=Lib.hid (as_no (ea (gv f.code)) ⟨w.heap.size,0,none⟩ _ _ hg1 hc)
  have HB:=Lib.hid hb0
  clear hb0 hk hc hz hg1 hg
  go_enter Tryz.func29,Tryz.ntmps29
  go_wp2_with fail
  refine HA.out.mono ?_
  rintro e w1 ⟨rfl,hb⟩
  go_wp2
  go_ret
  exact ⟨rfl,zaa HB.out hb⟩
 |some i=>
  unfold zd9 at hI
  rw [hp] at hI
  obtain ⟨rfl,b,rfl,hB⟩:=hI
  have HA:=Lib.hid (as_yes ⟨b,0,none⟩ ⟨w.heap.size,0,none⟩ _ _ hg1 hc hz)
  have HB:=Lib.hid hb0
  have HK:=Lib.hid hB
  have hbl:=hB.lt
  clear hb0 hk hc hz hg1 hg hB
  go_enter Tryz.func29,Tryz.ntmps29
  go_wp2_with fail
  refine HA.out.mono ?_
  rintro e w1 ⟨rfl,hcl,hb⟩
  have hb2:=HB.out.trans hb
  have d1:=(HK.out.below hb2 hbl).cell 1
  have HB2:=Lib.hid hb2
  clear hb hb2 HK HB HA
  go_wp2
  go_ret
  exact ⟨rfl,HB2.out⟩
end Go.Proofs.YthkfhfldoniolaaGreatDoor
namespace Go.Proofs.YthkfhfldoniolaaGreatDoor
open Go.RowKit
section
variable {av av':Nat→Prop} {ea:Nat→Addr} {w W W':World} {pp k:Nat} {s:PlS}
theorem zaX.re (h:zaX av ea w W pp k s) (hr:∀g,av' g→av g∨W.heap.size≤g):zaX av' ea w W pp k s:=by
 unfold zaX at h ⊢
 split
 ·rename_i e
  rw [e] at h
  exact h
 ·rename_i hb e
  rw [e] at h
  obtain ⟨h1,lo,hi,p,hv,h2⟩:=h
  refine ⟨h1,lo,hi,p,hv,h2.blk,h2.b,h2.row,h2.pl,h2.sep,fun g hg=> ?_⟩
  rcases hr g hg with h3|h3
  ·exact h2.far g h3
  ·exact ⟨fun hm=>by have:=h2.b.b.lt g hm;omega,fun e=>by have:=(h2.row.lt g e).2;omega⟩
theorem zaX.row {b n size:Nat} {e:TypeId} {v:Value} {xs:List Value} (hE:zbO ea w) (h:zaX av ea w W pp k s) (hv:∀g,v.ownBlock=some g→av g) (ho:W.ownsRow b e size v n xs) (hb:w.heap.size≤b) (he:e≠77) (hg:W.grownBy W' v.ownBlock):zaX av ea w W' pp k s:=by
 have ht:zam v.ownBlock.toList W W':=zam.zaE hg fun g hg=>by simpa using hg
 have hlo:∀g∈v.ownBlock.toList,w.heap.size≤g:=fun g hm=>Nat.le_trans hb (ho.lt g (by simpa using hm)).1
 have hpp:∀cs,Blk W pp 77 cs→pp∉v.ownBlock.toList:=fun cs hB hm=>by
  obtain ⟨cs',hC⟩:=zbE ho (g:=pp) (by simpa using hm)
  exact hC.ne_ hB he rfl
 unfold zaX at h ⊢
 split
 ·rename_i e
  rw [e] at h
  obtain ⟨h1,h2,h3,h4,h5⟩:=h
  have hb':Below w.heap.size w W':=h3.trans (ht.below h3.size hlo)
  exact ⟨ht.blk h1 (hpp _ h1),h2,hb',hE.below hb',h5⟩
 ·rename_i hb e
  rw [e] at h
  obtain ⟨h1,lo,hi,p,rv,h2⟩:=h
  refine ⟨h1,lo,hi,p,rv,ht.blk h2.blk (hpp _ h2.blk),h2.b.far hE ht fun g hm=>⟨hlo g hm,(h2.far g (hv g (by simpa using hm))).1⟩,ht.own h2.row fun g hg hm=>(h2.far g (hv g (by simpa using hm))).2 hg,h2.pl,h2.sep,h2.far⟩
def ToldPost (ea:Nat→Addr) (w:World) (k:Nat) (v:Value) (n:Nat) (xs:List Value) (r:(Nat×ByteArray)×PlS) (e:Ending) (w':World):Prop:=
 ∃t ev,e= .returned (.tuple #[.string t,ev])∧zcw ea w' ev r.1.1∧(r.1.1=0→t=r.1.2)∧zaX (fun g=>v.ownBlock=some g) ea w w' w.heap.size k r.2∧w'.ownsRow w.heap.size 9 1 v n xs∧Below w.heap.size w w'
theorem told_of {v:Value} {n:Nat} {xs:List Value} {r:(Nat×ByteArray)×PlS} {e:Ending} (h:zae (fun g=>v.ownBlock=some g) ea w w.heap.size k r W e W') (ho:W.ownsRow w.heap.size 9 1 v n xs):ToldPost ea w k v n xs r e W':=by
 obtain ⟨t,ev,rfl,h1,h2,h3,h4⟩:=h
 exact ⟨t,ev,rfl,h1,h2,h3,h4.own ho,h3.base.2.1⟩
theorem play_told {v:Value} {n:Nat} {xs:List Value} {line:ByteArray} (hE:zbO ea w) (hW:zdz w) (hK:zcp ea w) (hP:zaX (fun g=>v.ownBlock=some g) ea w W w.heap.size k s) (hk:k≤1000) (hs:line.size≤100000) (ho:W.ownsRow w.heap.size 9 1 v n xs):
 Calls Tryz.prog 28 #[.pointer (some ⟨w.heap.size,0,none⟩),.string line] W (ToldPost ea w (k+1) v n xs (zcu s line)):=
 (play_any (fun g hg=>(ho.lt g hg).2) hE hP hW hK hk hs).mono fun _ _ h=>told_of h ho
def RunPost (l:List ByteArray) (w:World) (e:Ending) (w':World):Prop:=
 ∃A' c',e= .returned (.tuple #[.slice A' l.length c',.nilIface])∧w'.ownsRow w.heap.size 9 1 (.slice A' l.length c') l.length (zak (zcH l).1)∧Below w.heap.size w w'
theorem tell_take {l:List ByteArray} {i:Nat} (h:i<l.length):(zcH (l.take (i+1))).2=(zcu (zcH (l.take i)).2 l[i]).2∧zak (zcH (l.take (i+1))).1=zak (zcH (l.take i)).1++[.string (zbX (zcu (zcH (l.take i)).2 l[i]).1)]:=by
 rw [zfR h]
 exact ⟨rfl,by simp [scrStep,zak]⟩
end
end Go.Proofs.YthkfhfldoniolaaGreatDoor
namespace Go.Proofs.YthkfhfldoniolaaGreatDoor
open Go.RowKit
theorem append_blk {P:Program} (w:World) (base:Nat) (t ty e:TypeId) (i:TypeInfo) (z:Value) (size bytes:Nat) (ht:P.underlying t=some (.slice e)) (hi:P.info? e=some i) (hz:i.zero=some z)
 (hsize:i.size=size) (hby:i.bytes=bytes) (v:Value) (n:Nat) (xs:List Value) (hown:w.ownsRow base e size v n xs)
 (a:Addr) (m c:Nat) (hm:0<m) (news:List Value) (hl:news.length=m*size) (hnews:∀j u,news[j]? =some u→w.cell? (a.add j)=some u) (h1:∀u∈news,u.oneCell'=true)
 (h63:n+m≤maxLen) (hbytes:(n+m)*bytes≤140737488355328) {v':Value} {w':World} (hrun:(Builtin.append_ #[t,t] ty #[v,.slice (some a) m c]).run P w= .ok v' w'):
 v'.ownBlock=v.ownBlock∨v'.ownBlock=some w.heap.size:=by
 subst hsize
 subst hby
 have hsmall:n+m≤9223372036854775807:=by simp only [maxLen] at h63;omega
 rcases hown.2 with ⟨rfl,rfl⟩|⟨g,cap,cur,rfl,hbg,hg,hnc,hcm,hcs,htake⟩
 ·have hr:=run_append_nil (P:=P) w t ty e i z ht hi hz a m c news hl hnews hm (by omega) (by have hb:=hbytes;simp only [Nat.zero_add] at hb;omega)
  rw [hr] at hrun
  cases hrun
  exact .inr rfl
 ·by_cases hroom:n+m≤cap
  ·have hfit:n*i.size+news.length≤cur.size:=by rw [hl,hcs,←Nat.add_mul];exact Nat.mul_le_mul_right _ hroom
   have hr:=run_append_room (P:=P) w t ty e i ht hi g n cap cur hg a m c news hl hnews h1 hroom hfit
   rw [hr] at hrun
   cases hrun
   exact .inl rfl
  ·have holds:∀j u,xs[j]? =some u→w.cell? ((⟨g,0,none⟩:Addr).add j)=some u:=hown.cells (g:=g) rfl
   have hr:=run_append_grow (P:=P) w t ty e i z ht hi hz ⟨g,0,none⟩ n cap xs hown.1 holds a m c news hl hnews (by omega) (by omega) (growslice_fits (by omega) hbytes)
   rw [hr] at hrun
   cases hrun
   exact .inr rfl
theorem zbU {P:Program} {w:World} {ops:Array Oper} {rest:List Oper} {o:Oper} {a:Act} {Q:Exit→Act→World→Prop} (hgd:o.guard=none) (s x:Operand) (t:TypeId)
 (ho:o.op= .call { callee:= .builtin .append,args:= #[s,x],argTypes:= #[t,t] })
 (base:Nat) (e:TypeId) (i:TypeInfo) (z:Value) (size bytes:Nat) (ht:P.underlying t=some (.slice e)) (hi:P.info? e=some i) (hz:i.zero=some z)
 (hsize:i.size=size) (hby:i.bytes=bytes) (hzs:z.cells.size=size) (hsz:0<size)
 (v:Value) (n:Nat) (xs:List Value) (hs:a.eval s=v) (hown:w.ownsRow base e size v n xs)
 (ad:Addr) (m c:Nat) (hm:0<m) (news:List Value) (hx:a.eval x= .slice (some ad) m c) (hl:news.length=m*size) (hnews:∀j u,news[j]? =some u→w.cell? (ad.add j)=some u) (h1:∀u∈news,u.oneCell'=true)
 (h63:n+m≤maxLen) (hbytes:(n+m)*bytes≤140737488355328) (hbase:base≤w.heap.size)
 (h:∀v' w',w'.ownsRow base e size v' (n+m) (xs++news)→w.grownBy w' v.ownBlock→(v'.ownBlock=v.ownBlock∨v'.ownBlock=some w.heap.size)→wpList P ops Q rest (a.put o.dst v') w'):wpList P ops Q (o::rest) a w:=by
 refine wpList_plain hgd fun _ hK=> ?_
 obtain ⟨v',w',hr,h2,h3,h4⟩:=run_append_own (P:=P) w base t o.type e i z size bytes ht hi hz hsize hby hzs hsz v n xs hown ad m c news hl hnews h1 h63 hbytes hbase
 have h5:=append_blk w base t o.type e i z size bytes ht hi hz hsize hby v n xs hown ad m c hm news hl hnews h1 h63 hbytes hr
 unfold Oper.wp execOp
 simp only [ho,resolve,invoke,builtin,Sem.run_bind,Sem.run_pure,Result.andThen_ok,List.map_toArray,List.map_cons,List.map_nil,hs,hx,hr]
 exact hK _ _ (h v' w' h2 h3 h5)
end Go.Proofs.YthkfhfldoniolaaGreatDoor
namespace Go.Proofs.YthkfhfldoniolaaGreatDoor
open Go.RowKit
set_option maxRecDepth 100000 in
theorem run_any {ea:Nat→Addr} {A:Option Addr} {cap:Nat} {l:List ByteArray} (w:World) (hE:ErrsS ea w) (hW:zdz w) (hG:zbK w) (hT:zcr w A cap l) (hl:l.length≤100) (hz:∀y∈l,y.size≤100000):
 Calls Tryz.prog 10 #[.slice A l.length cap] w (RunPost l w):=by
 obtain ⟨i0,hi,hz0,hz1,hz2⟩:=info_parts zc6
 have hb0:=(Below.refl w.heap.size w).alloc (Nat.le_refl _) (.cells #[.pointer none,.slice none 0 0,.int .i64 0] 77)
 have HP0:Hid (zaX (fun g=>(Value.slice none 0 0).ownBlock=some g) ea w (w.alloc (.cells #[.pointer none,.slice none 0 0,.int .i64 0] 77)) w.heap.size 0 (zcH (l.take 0)).2):=Lib.hid ⟨Blk.new _ _ _,rfl,hb0,hE.b.below hb0,Nat.le_refl _⟩
 have b1:decide ((l.length:Int)>100)=false:=by simp;omega
 have HE:=Lib.hid hE
 have HW:=Lib.hid hW
 have HG:=Lib.hid hG
 have HT:=Lib.hid hT
 have HZ:=Lib.hid hz
 clear hb0 hE hW hG hT hz
 go_enter Tryz.func10,Tryz.ntmps10
 go_wp2_with fail
 go_loopw [5,18] (fun ov iv wr=>∃(k:Nat) (O:Option Addr) (oc:Nat),ov= .slice O k oc∧iv= .int .i64 (k:Int)∧k≤l.length∧Hid (wr.ownsRow w.heap.size 9 1 (.slice O k oc) k (zak (zcH (l.take k)).1))∧Hid (zaX (fun g=>(Value.slice O k oc).ownBlock=some g) ea w wr w.heap.size k (zcH (l.take k)).2)) (fun _ iv _=>l.length- (intOf iv).toNat)
 case atStart=>exact ⟨0,none,0,rfl,rfl,Nat.zero_le _,Lib.hid (World.ownsRow_nil _ _ _ _),HP0⟩
 case round=>
  obtain ⟨k,O,oc,rfl,rfl,hk,hR,hP⟩:=hrel
  by_cases hlt:k<l.length
  ·have hbw:=hP.out.base.2.1
   obtain ⟨ad,rfl,hc⟩:=zcq (HT.out.below hbw).r hlt
   have hlt2:(k:Int)<l.length:=by omega
   have HC:=Lib.hid (play_told (line:=l[k]) HE.out.b HW.out HE.out.k hP.out (by omega) (HZ.out _ (List.getElem_mem hlt)) hR.out)
   unfold ToldPost at HC
   clear hbw
   go_wp2_with fail
   refine HC.out.mono ?_
   rintro e w2 ⟨t,ev,rfl,hev,ht,hP2,hR2,hb2⟩
   have HT2:=Lib.hid (tell_take hlt)
   generalize zcu (zcH (l.take k)).2 l[k]=r at*
   have HApp:Hid (∀(w3:World) (x:ByteArray),Below w2.heap.size w2 w3→x=zbX r.1→(w3.alloc (.cells #[.string x] 9)).ownsRow w.heap.size 9 1 (.slice O k oc) k (zak (zcH (l.take k)).1)∧w.heap.size≤(w3.alloc (.cells #[.string x] 9)).heap.size∧
    ∀v' W',W'.ownsRow w.heap.size 9 1 v' (k+1) (zak (zcH (l.take k)).1++[.string x])→(w3.alloc (.cells #[.string x] 9)).grownBy W' (Value.slice O k oc).ownBlock→(v'.ownBlock=(Value.slice O k oc).ownBlock∨v'.ownBlock=some (w3.alloc (.cells #[.string x] 9)).heap.size)→∃O' oc',v'= .slice O' (k+1) oc'∧Hid (W'.ownsRow w.heap.size 9 1 (.slice O' (k+1) oc') (k+1) (zak (zcH (l.take (k+1))).1))∧Hid (zaX (fun g=>(Value.slice O' (k+1) oc').ownBlock=some g) ea w W' w.heap.size (k+1) (zcH (l.take (k+1))).2)):=Lib.hid fun w3 x hb hx=>by
    have hb':Below w2.heap.size w2 (w3.alloc (.cells #[.string x] 9)):=hb.alloc hb.size _
    have ho:=own_below hR2 hb'
    refine ⟨ho,Nat.le_trans hb2.size hb'.size,fun v' W' h1 h2 h3=> ?_⟩
    obtain ⟨O',oc',rfl,_⟩:=zai h1
    have hp:=(hP2.below hb').re (av':=fun g=>(Value.slice O k oc).ownBlock=some g∨g=(w3.alloc (.cells #[.string x] 9)).heap.size) (fun g hg=>hg.imp id (fun e=>by omega))
    have hp2:=hp.row HE.out.b (fun g hg=> .inl hg) ho (Nat.le_refl _) (by decide) h2
    obtain ⟨t1,t2⟩:=HT2.out
    refine ⟨O',oc',rfl,Lib.hid (by rw [t2,←hx];exact h1),Lib.hid (by
     rw [t1]
     exact hp2.re fun g hg=> .inl (by
      rcases h3 with e|e
      ·exact .inl (by rw [←e];exact hg)
      ·exact .inr (by rw [e] at hg;cases hg;rfl)))⟩
   clear HT2 hP2 hR2 hR hP
   rcases hev with ⟨h0,rfl⟩|⟨hcd,f,ty,a,rfl,hI,hfc⟩
   ·have hx:t=zbX r.1:=by unfold zbX;rw [if_pos h0];exact ht h0
    obtain ⟨hO,hs,hA⟩:=HApp.out w2 t (Below.refl _ _) hx
    have HA:=Lib.hid hA
    clear HApp hA hx h0 ht HC HE HW HG HZ
    go_wp2_with (at_builtin
                 go_must (refine zbU rfl (.tmp 33) (.tmp 35) _ rfl w.heap.size 9 i0 _ 1 16 Tryz.underlying24 hi hz0 hz1 hz2 rfl (by decide) _ k _ rfl hO ⟨w2.heap.size,0,none⟩ 1 1 (by decide) [.string t] rfl rfl (cell_one_new _ _ _) (by simp [Value.oneCell']) (by simp only [maxLen];omega) (by omega) hs ?_)
                 intro v' W' h1 h2 h3
                 obtain ⟨O',oc',hv,hR',hP'⟩:=HA.out v' W' h1 h2 h3
                 subst hv
                 clear h1 h2 h3 hO hs HA)
    go_roundw
    case rel=>exact ⟨k+1,O',oc',rfl,by go_num,by omega,hR',hP'⟩
    case measure=>simp [intOf];omega
   ·have HBr:=Lib.hid (bareErr_any w2 (HG.out.below hb2) hI)
    have hEc:w2.cell? (ea (gv f.code))=some (.string (ze8 r.1.1)):=by rw [hfc];exact (HE.out.below hb2).t r.1.1 hcd
    have HEc:Hid (∀w3,Below w2.heap.size w2 w3→w3.cell? (ea (gv f.code))=some (.string (ze8 r.1.1))):=Lib.hid fun w3 hb=>(hb.cell (World.block_lt_of_cell? _ _ hEc)).trans hEc
    have hx:ze8 r.1.1=zbX r.1:=by unfold zbX;rw [if_neg (by have:=hcd.1;omega)]
    have HX:=Lib.hid hx
    clear hx hEc hfc hI hcd ht HC HE HW HG HZ
    generalize ea (gv f.code)=ad2 at*
    generalize ze8 r.1.1=x at*
    go_wp2_with fail
    refine HBr.out.mono ?_
    rintro e w3 ⟨rfl,hb3⟩
    have HErr:=Lib.hid (error_any ad2 x w3 (HEc.out w3 hb3))
    obtain ⟨hO,hs,hA⟩:=HApp.out w3 x hb3 HX.out
    have HA:=Lib.hid hA
    clear HApp hA hb3 HBr HEc HX
    go_wp2_with fail
    refine HErr.out.mono ?_
    rintro e w4 ⟨rfl,rfl⟩
    clear HErr
    go_wp2_with (at_builtin
                 go_must (refine zbU rfl (.tmp 33) (.tmp 35) _ rfl w.heap.size 9 i0 _ 1 16 Tryz.underlying24 hi hz0 hz1 hz2 rfl (by decide) _ k _ rfl hO ⟨w3.heap.size,0,none⟩ 1 1 (by decide) [.string x] rfl rfl (cell_one_new _ _ _) (by simp [Value.oneCell']) (by simp only [maxLen];omega) (by omega) hs ?_)
                 intro v' W' h1 h2 h3
                 obtain ⟨O',oc',hv,hR',hP'⟩:=HA.out v' W' h1 h2 h3
                 subst hv
                 clear h1 h2 h3 hO hs HA)
    go_roundw
    case rel=>exact ⟨k+1,O',oc',rfl,by go_num,by omega,hR',hP'⟩
    case measure=>simp [intOf];omega
  ·obtain rfl:k=l.length:=by omega
   have hR1:=hR.out
   rw [List.take_length] at hR1
   have HF:Hid (RunPost l w (.returned (.tuple #[.slice O l.length oc,.nilIface])) wr):=Lib.hid ⟨O,oc,rfl,hR1,hP.out.base.2.1⟩
   clear hR1 hR hP HE HW HG HZ HT
   go_wp2
   go_ret2
   exact HF.out
end Go.Proofs.YthkfhfldoniolaaGreatDoor
