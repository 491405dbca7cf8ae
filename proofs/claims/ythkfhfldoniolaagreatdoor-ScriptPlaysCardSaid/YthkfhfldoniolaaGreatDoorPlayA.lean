/-
  Package script: play, the commands' lines (printed by wip/gen/genplay3.py). Package script: play, the commands' lines (printed by wip/gen/genplay3.py). Package script: play, the commands' lines (printed by wip/gen/genplay3.py).
-/
import Derived.Test.YthkfhfldoniolaaGreatDoorScrPlay
set_option maxHeartbeats 1000000
namespace Go.Proofs.YthkfhfldoniolaaGreatDoor
open Go.RowKit
section
variable {av:Nat→Prop} {ea:Nat→Addr} {w W W':World} {pp k:Nat} {s:PlS} {line c:ByteArray} {t:List ByteArray} {q:Cmd}
theorem zcJ.set2 {w:World} {v:Value} {x:Wd} {gw:Nat} {cs:Array Value} (h:zcJ w v x) (hB:Blk w gw 110 cs) (u0 u1:Value):zcJ ((w.setCell ⟨gw,0,none⟩ u0).setCell ⟨gw,1,none⟩ u1) v x:=by
 have ht:zam [gw] w ((w.setCell ⟨gw,0,none⟩ u0).setCell ⟨gw,1,none⟩ u1):=((zam.refl _ _).setCell (p:=⟨gw,0,none⟩) (.inl (by simp)) _).setCell (p:=⟨gw,1,none⟩) (.inl (by simp)) _
 obtain ⟨A,c,A2,c2,rfl,r1,r2,hc,b1,b2⟩:=h.is
 have hs:=ht.size
 refine ⟨A,c,A2,c2,rfl,(ht.readsNe r1 fun h0 ad e=> ?_).more hs,(ht.readsNe r2 fun h0 ad e=> ?_).more hs,hc,fun ad e h0=> ?_,fun ad e h0=> ?_⟩
 ·obtain ⟨cs',hC⟩:=b1 ad e h0
  simpa using hC.ne_ hB (by decide)
 ·obtain ⟨cs',hC⟩:=b2 ad e h0
  simpa using hC.ne_ hB (by decide)
 ·obtain ⟨cs',hC⟩:=b1 ad e h0
  exact ⟨_,ht.blk hC (by simpa using hC.ne_ hB (by decide))⟩
 ·obtain ⟨cs',hC⟩:=b2 ad e h0
  exact ⟨_,ht.blk hC (by simpa using hC.ne_ hB (by decide))⟩
theorem za8 {W w4:World} {r:Option Wd} {v0 v1:Value} (hb:Below W.heap.size W w4) (hx:∀y,r=some y→zcJ w4 (.agg #[v0,v1]) y):
 Below W.heap.size W (w4.alloc (.cells #[v0,v1] 110))∧Blk (w4.alloc (.cells #[v0,v1] 110)) w4.heap.size 110 #[v0,v1]∧∀y,r=some y→zcJ (w4.alloc (.cells #[v0,v1] 110)) (.agg #[v0,v1]) y:=
 ⟨zaa hb ((Below.refl _ _).alloc (Nat.le_refl _) _),Blk.new _ _ _,fun y hy=>(hx y hy).below ((Below.refl _ _).alloc (Nat.le_refl _) _)⟩
theorem za7 {W w4:World} {r:Option Wd} {v0 v1:Value} (hb:Below (W.drew.alloc (.cells #[.slice none 0 0,.slice none 0 0] 110)).heap.size (W.drew.alloc (.cells #[.slice none 0 0,.slice none 0 0] 110)) w4) (hx:∀y,r=some y→zcJ w4 (.agg #[v0,v1]) y):
 Blk w4 W.heap.size 110 #[.slice none 0 0,.slice none 0 0]∧Below W.heap.size W ((w4.setCell ⟨W.heap.size,0,none⟩ v0).setCell ⟨W.heap.size,1,none⟩ v1)∧Blk ((w4.setCell ⟨W.heap.size,0,none⟩ v0).setCell ⟨W.heap.size,1,none⟩ v1) W.heap.size 110 #[v0,v1]∧∀y,r=some y→zcJ ((w4.setCell ⟨W.heap.size,0,none⟩ v0).setCell ⟨W.heap.size,1,none⟩ v1) (.agg #[v0,v1]) y:=by
 have hz:=Blk.new W.drew 110 #[.slice none 0 0,.slice none 0 0]
 have hb3:Below W.heap.size W w4:=zab (zaa ((Below.refl W.drew.heap.size W.drew).alloc (Nat.le_refl _) _) hb)
 have hz2:Blk w4 W.heap.size 110 #[.slice none 0 0,.slice none 0 0]:=hz.below hb hz.lt
 exact ⟨hz2,(hb3.setCell (p:=⟨W.heap.size,0,none⟩) (Nat.le_refl _) _).setCell (p:=⟨W.heap.size,1,none⟩) (Nat.le_refl _) _,(hz2.zbk 0 _).zbk 1 _,fun y hy=>(hx y hy).set2 hz2 _ _⟩
theorem zbH (q:Cmd):∀args w,(callFunc q.fn args).run Tryz.prog w= .ok (.enter q.fn args) w:=by
 cases q
 ·exact enters_of Tryz.func86 (by kernel_rfl) rfl
 ·exact enters_of Tryz.func88 (by kernel_rfl) rfl
 ·exact enters_of Tryz.func89 (by kernel_rfl) rfl
 ·exact enters_of Tryz.func92 (by kernel_rfl) rfl
 ·exact enters_of Tryz.func94 (by kernel_rfl) rfl
 ·exact enters_of Tryz.func97 (by kernel_rfl) rfl
 ·exact enters_of Tryz.func99 (by kernel_rfl) rfl
 ·exact enters_of Tryz.func101 (by kernel_rfl) rfl
 ·exact enters_of Tryz.func102 (by kernel_rfl) rfl
 ·exact enters_of Tryz.func104 (by kernel_rfl) rfl
 ·exact enters_of Tryz.func107 (by kernel_rfl) rfl
theorem zdF {w:World} {A A2:Option Addr} {n c n2 c2 n0:Nat} {hl:List ByteArray} (h:zcJ w (.agg #[.slice A n c,.slice A2 n2 c2]) ⟨hl,[n0]⟩):∃ad,A2=some ad∧w.cell? ad=some (.int .i64 (n0:Int)):=by
 obtain ⟨A',c',A2',c2',e,_,r2,_⟩:=h.is
 simp only [Value.agg.injEq,Array.mk.injEq,List.cons.injEq,Value.slice.injEq,and_true] at e
 obtain ⟨_,rfl,_,rfl⟩:=e
 obtain ⟨ad,u,rfl,_,hu,hc⟩:=r2.at_ (k:=0) (by simp)
 refine ⟨ad,rfl, ?_⟩
 rw [zd3] at hc
 rw [hc,←hu]
 rfl
theorem zao {c:ByteArray} {l:List UInt8} (h:c≠bt l):(c.toList==l)=false:=beq_eq_false_iff_ne.2 fun e=>h (zft (by
 rw [Lib.toList_data] at e
 rw [e]
 simp [bt]))
theorem zb2 {b n:Nat} {f:ByteArray→Option Cmd} {w:World} {c:ByteArray} {q:Cmd} (hm:za0 b n f w) (hc:c.size≤maxLen) (h:f c=some q):
 (Instr.lookup 119 (.map (some b)) (.string c) true).run Tryz.prog w= .ok (.tuple #[.agg #[.string ⟨q.form.toArray⟩,.func (.func q.fn) #[] #[]],.bool true]) w:=by
 have:=hm.look hc
 rw [h] at this
 exact this
theorem zey {b n:Nat} {f:ByteArray→Option Cmd} {w:World} {c:ByteArray} (hm:za0 b n f w) (hc:c.size≤maxLen) (h:f c=none):
 (Instr.lookup 119 (.map (some b)) (.string c) true).run Tryz.prog w= .ok (.tuple #[.agg #[.string ⟨#[]⟩,.nilFunc],.bool false]) w:=by
 have:=hm.look hc
 rw [h] at this
 exact this
theorem zbx {w1:World} {g:Nat} (hB:Blk w1 g 9 (zak (c::t)).toArray) {w2:World} (hb:Below w1.heap.size w1 w2):w2.cell? ⟨g,0,none⟩=some (.string c):=(hB.below hb hB.lt).cell 0
set_option maxRecDepth 100000 in
theorem ask_k3F (hE:zbO ea w) (hP:zaX av ea w W pp k s) (hW:zdz w) (hK:zcp ea w) (hk:k≤1000) (hs:line.size≤100000) (hl:zaI line=c::t) (n1:c≠zav) (n2:c≠zaP) (haq:zbZ c=some q) {x:Wd} (hr:zaY q.form t=some x) (hh:¬q.form=[104,110]) {hb:List ByteArray×BS} (hsb:s.b=some hb):
 Calls Tryz.prog 28 #[.pointer (some ⟨pp,0,none⟩),.string line] W (zae av ea w pp (k+1) (zaJ q x hb.1 hb.2 s.now) W):=by
 obtain ⟨_,hw,hEW,hpl⟩:=hP.base
 have hCW:=hW.below hw
 obtain ⟨tc,t2,t3⟩:=zaK hl hs
 have HS:=Lib.hid (zaT hl (by omega) W hCW)
 unfold zcL at HS
 have HR:=Lib.hid (zbp (W:=W) (c:=c) (t:=t) q.form (zbI q) hCW t2 t3)
 unfold zaW at HR
 have HB0:=Lib.hid (fun (w1 w2:World) (g:Nat) (hB:Blk w1 g 9 (zak (c::t)).toArray) (hb:Below w1.heap.size w1 w2)=>zbx hB hb)
 have n1':(c.toList==[104,111,115,116,115])=false:=zao n1
 have n2':(c.toList==[106,117,109,112])=false:=zao n2
 have HA:=Lib.hid (fun w1=>zbS w1)
 unfold zbs at HA
 have HL:=Lib.hid (fun (w2:World) (b:Nat) (hm:za0 b 4 zbZ w2)=>zb2 hm (by unfold maxLen;omega) haq)
 obtain ⟨pb,HP,HD⟩:∃pb:Addr,Hid (∀w1,Below W.heap.size W w1→w1.cell? ⟨pp,0,none⟩=some (.pointer (some pb)))∧Hid (∀w5 wv,Below W.heap.size W w5→zcJ w5 wv x→Calls Tryz.prog q.fn #[.pointer (some ⟨pp,0,none⟩),wv] w5 fun e w'=>∃v1 v2,e= .returned (.tuple #[v1,v2])∧zae av ea w pp (k+1) (zaJ q x hb.1 hb.2 s.now) W e w'):=by
  unfold zaX at hP
  rw [hsb] at hP
  obtain ⟨hI,lo,hi,p,hv,hM⟩:=hP
  refine ⟨⟨p.bp,0,none⟩,Lib.hid fun w1 hb=>(hM.below hb).blk.cell 0,Lib.hid fun w5 wv hb hx=> ?_⟩
  refine (does_any q hE hW hK hI (hM.below hb) hk hr (by omega) (fun y hy=>by have:=t3 y hy;omega) hx).mono fun e w' h=> ?_
  have h1:=h.from_ hb
  obtain ⟨v1,v2,rfl,_⟩:=h
  exact ⟨_,_,rfl,h1⟩
 rw [hr] at HR
 have b0:((⟨q.form.toArray⟩:ByteArray).toList==[104,110])=false:=zao (l:=[104,110]) fun e=>hh (by
  have:=congrArg (fun z:ByteArray=>z.data.toList) e
  simpa [bt] using this)
 generalize zae av ea w pp (k+1) (zaJ q x hb.1 hb.2 s.now) W=PQ at*
 generalize (⟨q.form.toArray⟩:ByteArray)=F at*
 have eg:=zbH q
 generalize q.fn=K at*
 have hsf:=fun (W:World) (a:Addr) (m:Mode)=>run_store Tryz.prog W a (.func (.func K) #[] #[]) m rfl
 clear hE hK hk
 clear hP hW hs hl hw hEW hpl hCW t2 t3 tc hr n1 n2 haq
 clear hh
 clear hsb
 go_enter Tryz.func28,Tryz.ntmps28
 go_wp2_with fail
 refine HS.out.mono ?_
 rintro e w1 ⟨g,rfl,hb1,hB1⟩
 have c0:=HB0.out w1 w1 g hB1 (Below.refl _ _)
 have HB:=Lib.hid (fun w2=>HB0.out w1 w2 g hB1)
 have HR1:=Lib.hid (fun w2 (hb:Below w1.heap.size w1 w2)=>HR.out w2 g (zaa hb1 hb) (hB1.below hb hB1.lt))
 have HB1:=Lib.hid hb1
 have hg1:=hB1.lt
 generalize t.length=m at*
 clear hb1 hB1 HR HB0 HS
 go_wp2_with fail
 go_region_held3 (fun w'=>w'.cell? ⟨g,0,none⟩=some (.string c)) (first|exact hS2|exact hS3|exact c0|go_keep) (first
  |(go_at_call 58
    refine (HA.out _).mono ?_
    rintro e w2 ⟨b,rfl,hm,hb2⟩
    have hlk:=HL.out w2 b hm
    have hlk2:=HL.out _ b (hm.below ((Below.refl w2.heap.size w2).alloc (Nat.le_refl _) (.cells #[.string ⟨#[]⟩,.nilFunc] 117)))
    first
     |(have hb3:Below w1.heap.size w1 w2:=zab hb2
       have hS2:=HB.out w2 hb3
       have HX:Hid (Below w1.heap.size w1 (w2.alloc (.cells #[.string F,.func (.func K) #[] #[]] 117))∧Blk (w2.alloc (.cells #[.string F,.func (.func K) #[] #[]] 117)) w2.heap.size 117 #[.string F,.func (.func K) #[] #[]]):=Lib.hid ⟨zaa hb3 ((Below.refl _ _).alloc (Nat.le_refl _) _),Blk.new _ _ _⟩
       have hge:=hb3.size
       clear hb3)
     |(have hz:=Blk.new w1.drew 117 #[.string ⟨#[]⟩,.nilFunc]
       have hb3:Below w1.heap.size w1 w2:=zab (zaa ((Below.refl w1.drew.heap.size w1.drew).alloc (Nat.le_refl _) (.cells #[.string ⟨#[]⟩,.nilFunc] 117)) hb2)
       have hS2:=HB.out w2 hb3
       have hz2:Blk w2 w1.heap.size 117 #[.string ⟨#[]⟩,.nilFunc]:=hz.below hb2 hz.lt
       have q0:=hz2.cell 0
       have q1:=hz2.cell 1
       have z0:=hz2.frozen 0
       have z1:=hz2.frozen 1
       have HX:Hid (Below w1.heap.size w1 ((w2.setCell ⟨w1.heap.size,0,none⟩ (.string F)).setCell ⟨w1.heap.size,1,none⟩ (.func (.func K) #[] #[]))∧Blk ((w2.setCell ⟨w1.heap.size,0,none⟩ (.string F)).setCell ⟨w1.heap.size,1,none⟩ (.func (.func K) #[] #[])) w1.heap.size 117 #[.string F,.func (.func K) #[] #[]]):=Lib.hid ⟨(hb3.setCell (p:=⟨w1.heap.size,0,none⟩) (Nat.le_refl _) _).setCell (p:=⟨w1.heap.size,1,none⟩) (Nat.le_refl _) _,(hz2.zbk 0 _).zbk 1 _⟩
       have hS3:=HB.out _ HX.out.1
       clear hz hb3 hz2)
    clear hm hb2))
 all_goals first
  |(generalize w2.alloc (.cells #[.string F,.func (.func K) #[] #[]] 117)=W3 at*
    obtain ⟨h3,k3⟩:=HX.out
    have HB3:=Lib.hid (zaa HB1.out h3)
    have HR3:=Lib.hid (fun w' (hb:Below W3.heap.size W3 w')=>HR1.out w' (zaa h3 hb))
    have HK3:=Lib.hid k3
    clear hS2 HX h3 k3 HR1 HB HB1 hg1 c0 hlk hlk2 HA HL hge
    generalize w2.heap.size=g3 at*)
  |(generalize (w2.setCell ⟨w1.heap.size,0,none⟩ (.string F)).setCell ⟨w1.heap.size,1,none⟩ (.func (.func K) #[] #[])=W3 at*
    obtain ⟨h3,k3⟩:=HX.out
    have HB3:=Lib.hid (zaa HB1.out h3)
    have HR3:=Lib.hid (fun w' (hb:Below W3.heap.size W3 w')=>HR1.out w' (zaa h3 hb))
    have HK3:=Lib.hid k3
    clear hS2 hS3 HX h3 k3 HR1 HB HB1 hg1 c0 hlk hlk2 HA HL q0 q1 z0 z1
    generalize w1.heap.size=g3 at*)
 all_goals
  have f0:=HK3.out.cell 0
  have f1:=HK3.out.cell 1
  have hg3:=HK3.out.lt
  rcases Nat.eq_zero_or_pos m with hm|hm
 all_goals
  first
   |(have HRm:=Lib.hid (fun w' (hb:Below W3.heap.size W3 w')=>(HR3.out w' hb).2 hm)
     subst hm)
   |(have HRm:=Lib.hid (fun w' (hb:Below W3.heap.size W3 w')=>(HR3.out w' hb).1)
     have hm2:¬m=0:=by omega
     have hm3:(1:Int)≤((m+1:Nat):Int):=by omega
     have hm4:(1:Int)≤(m:Int)+1:=by omega)
  clear HR3
  go_wp2_with fail
 all_goals
  go_region_held3 (fun w'=>w'.cell? ⟨g3,0,none⟩=some (.string F)) (first|exact hS5|exact f0|go_keep) (first
   |(go_at_call 55
     refine Calls.mono (HRm.out _ (by first|exact zad (Below.refl _ _)|exact zab ((Below.refl W3.drew.heap.size W3.drew).alloc (Nat.le_refl _) _))) ?_
     rintro e w4 ⟨A,n,c4,A2,n2,c2,rfl,hb4,hx⟩
     first
      |(have hb5:Below W3.heap.size W3 w4:=zab hb4
        have hS5:=(HK3.out.below hb5 HK3.out.lt).cell 0
        have HY:=Lib.hid (za8 hb5 fun y hy=>(hx y hy).2.2)
        have HN:=Lib.hid (fun y hy=>(hx y hy).1)
        have HN2:=Lib.hid (fun y hy=>(hx y hy).2.1)
        clear hb5)
      |(have hw:=za7 hb4 fun y hy=>(hx y hy).2.2
        have hb5:Below W3.heap.size W3 w4:=zab (zaa ((Below.refl W3.drew.heap.size W3.drew).alloc (Nat.le_refl _) _) hb4)
        have hS5:=(HK3.out.below hb5 HK3.out.lt).cell 0
        have hS6:=(HK3.out.below hw.2.1 HK3.out.lt).cell 0
        have q0:=hw.1.cell 0
        have q1:=hw.1.cell 1
        have z0:=hw.1.frozen 0
        have z1:=hw.1.frozen 1
        have HY:Hid (Below W3.heap.size W3 ((w4.setCell ⟨W3.heap.size,0,none⟩ (.slice A n c4)).setCell ⟨W3.heap.size,1,none⟩ (.slice A2 n2 c2))∧Blk ((w4.setCell ⟨W3.heap.size,0,none⟩ (.slice A n c4)).setCell ⟨W3.heap.size,1,none⟩ (.slice A2 n2 c2)) W3.heap.size 110 #[.slice A n c4,.slice A2 n2 c2]∧∀y,some x=some y→zcJ ((w4.setCell ⟨W3.heap.size,0,none⟩ (.slice A n c4)).setCell ⟨W3.heap.size,1,none⟩ (.slice A2 n2 c2)) (.agg #[.slice A n c4,.slice A2 n2 c2]) y):=Lib.hid hw.2
        have HN:=Lib.hid (fun y hy=>(hx y hy).1)
        have HN2:=Lib.hid (fun y hy=>(hx y hy).2.1)
        clear hw hb5)
     clear hb4 hx))
 all_goals first
  |(obtain ⟨W5,hW5⟩:∃W5,W5=w4.alloc (.cells #[.slice A n c4,.slice A2 n2 c2] 110):=⟨_,rfl⟩
    rw [←hW5] at HY
    rw [←hW5]
    clear hW5
    obtain ⟨h5,k5,x5⟩:=HY.out
    have HB5:=Lib.hid h5
    have HK5:=Lib.hid k5
    have HX5:=Lib.hid x5
    clear hS5 HY h5 k5 x5 HRm f0 f1
    generalize w4.heap.size=g5 at*)
  |(obtain ⟨W5,hW5⟩:∃W5,W5=(w4.setCell ⟨W3.heap.size,0,none⟩ (.slice A n c4)).setCell ⟨W3.heap.size,1,none⟩ (.slice A2 n2 c2):=⟨_,rfl⟩
    rw [←hW5] at HY
    rw [←hW5]
    clear hW5
    obtain ⟨h5,k5,x5⟩:=HY.out
    have HB5:=Lib.hid h5
    have HK5:=Lib.hid k5
    have HX5:=Lib.hid x5
    clear hS5 hS6 HY h5 k5 x5 HRm q0 q1 z0 z1 f0 f1
    generalize hg5:W3.heap.size=g5 at HK5 ⊢
    clear hg5)
 all_goals
  have kc:=HK3.out.below HB5.out HK3.out.lt
  have f0:=kc.cell 0
  have f1:=kc.cell 1
  have v0:=HK5.out.cell 0
  have v1:=HK5.out.cell 1
  have hbW:=zaa HB3.out HB5.out
  have p0:=HP.out _ hbW
  have HD5:=Lib.hid (HD.out W5 _ hbW (HX5.out _ rfl))
  clear kc hbW HK3 HB5 HK5 HB3 HX5 HN HN2 HD HP hsf
  go_wp2_with fail
  refine HD5.out.mono ?_
  rintro e w6 ⟨y1,y2,rfl,hq⟩
  have HQ6:=Lib.hid hq
  clear hq HD5
  go_wp2
  exact HQ6.out
end
section
variable {av:Nat→Prop} {ea:Nat→Addr} {w W W':World} {pp k:Nat} {s:PlS} {line c:ByteArray} {t:List ByteArray} {q:Cmd}
set_option maxRecDepth 100000 in
theorem ask_k3T (hE:zbO ea w) (hP:zaX av ea w W pp k s) (hW:zdz w) (hK:zcp ea w) (hk:k≤1000) (hs:line.size≤100000) (hl:zaI line=c::t) (n1:c≠zav) (n2:c≠zaP) (haq:zbZ c=some q) {z:ByteArray} {n0:Nat} (hr:zaY q.form t=some ⟨[z],[n0]⟩) (hh:q.form=[104,110]) (hn0:¬1<n0) {hb:List ByteArray×BS} (hsb:s.b=some hb):
 Calls Tryz.prog 28 #[.pointer (some ⟨pp,0,none⟩),.string line] W (zae av ea w pp (k+1) (zaJ q ⟨[z],[n0]⟩ hb.1 hb.2 s.now) W):=by
 obtain ⟨_,hw,hEW,hpl⟩:=hP.base
 have hCW:=hW.below hw
 obtain ⟨tc,t2,t3⟩:=zaK hl hs
 have HS:=Lib.hid (zaT hl (by omega) W hCW)
 unfold zcL at HS
 have HR:=Lib.hid (zbp (W:=W) (c:=c) (t:=t) q.form (zbI q) hCW t2 t3)
 unfold zaW at HR
 have HB0:=Lib.hid (fun (w1 w2:World) (g:Nat) (hB:Blk w1 g 9 (zak (c::t)).toArray) (hb:Below w1.heap.size w1 w2)=>zbx hB hb)
 have n1':(c.toList==[104,111,115,116,115])=false:=zao n1
 have n2':(c.toList==[106,117,109,112])=false:=zao n2
 have HA:=Lib.hid (fun w1=>zbS w1)
 unfold zbs at HA
 have HL:=Lib.hid (fun (w2:World) (b:Nat) (hm:za0 b 4 zbZ w2)=>zb2 hm (by unfold maxLen;omega) haq)
 obtain ⟨pb,HP,HD⟩:∃pb:Addr,Hid (∀w1,Below W.heap.size W w1→w1.cell? ⟨pp,0,none⟩=some (.pointer (some pb)))∧Hid (∀w5 wv,Below W.heap.size W w5→zcJ w5 wv ⟨[z],[n0]⟩→Calls Tryz.prog q.fn #[.pointer (some ⟨pp,0,none⟩),wv] w5 fun e w'=>∃v1 v2,e= .returned (.tuple #[v1,v2])∧zae av ea w pp (k+1) (zaJ q ⟨[z],[n0]⟩ hb.1 hb.2 s.now) W e w'):=by
  unfold zaX at hP
  rw [hsb] at hP
  obtain ⟨hI,lo,hi,p,hv,hM⟩:=hP
  refine ⟨⟨p.bp,0,none⟩,Lib.hid fun w1 hb=>(hM.below hb).blk.cell 0,Lib.hid fun w5 wv hb hx=> ?_⟩
  refine (does_any q hE hW hK hI (hM.below hb) hk hr (by omega) (fun y hy=>by have:=t3 y hy;omega) hx).mono fun e w' h=> ?_
  have h1:=h.from_ hb
  obtain ⟨v1,v2,rfl,_⟩:=h
  exact ⟨_,_,rfl,h1⟩
 rw [hr] at HR
 rw [hh] at HR HL
 have b0:decide ((n0:Int)>1)=false:=by simp;omega
 generalize zae av ea w pp (k+1) (zaJ q ⟨[z],[n0]⟩ hb.1 hb.2 s.now) W=PQ at*
 have eg:=zbH q
 generalize q.fn=K at*
 have hsf:=fun (W:World) (a:Addr) (m:Mode)=>run_store Tryz.prog W a (.func (.func K) #[] #[]) m rfl
 clear hE hK hk
 clear hP hW hs hl hw hEW hpl hCW t2 t3 tc hr n1 n2 haq
 clear hh
 clear hsb
 go_enter Tryz.func28,Tryz.ntmps28
 go_wp2_with fail
 refine HS.out.mono ?_
 rintro e w1 ⟨g,rfl,hb1,hB1⟩
 have c0:=HB0.out w1 w1 g hB1 (Below.refl _ _)
 have HB:=Lib.hid (fun w2=>HB0.out w1 w2 g hB1)
 have HR1:=Lib.hid (fun w2 (hb:Below w1.heap.size w1 w2)=>HR.out w2 g (zaa hb1 hb) (hB1.below hb hB1.lt))
 have HB1:=Lib.hid hb1
 have hg1:=hB1.lt
 generalize t.length=m at*
 clear hb1 hB1 HR HB0 HS
 go_wp2_with fail
 go_region_held3 (fun w'=>w'.cell? ⟨g,0,none⟩=some (.string c)) (first|exact hS2|exact hS3|exact c0|go_keep) (first
  |(go_at_call 58
    refine (HA.out _).mono ?_
    rintro e w2 ⟨b,rfl,hm,hb2⟩
    have hlk:=HL.out w2 b hm
    have hlk2:=HL.out _ b (hm.below ((Below.refl w2.heap.size w2).alloc (Nat.le_refl _) (.cells #[.string ⟨#[]⟩,.nilFunc] 117)))
    first
     |(have hb3:Below w1.heap.size w1 w2:=zab hb2
       have hS2:=HB.out w2 hb3
       have HX:Hid (Below w1.heap.size w1 (w2.alloc (.cells #[.string ⟨#[104,110]⟩,.func (.func K) #[] #[]] 117))∧Blk (w2.alloc (.cells #[.string ⟨#[104,110]⟩,.func (.func K) #[] #[]] 117)) w2.heap.size 117 #[.string ⟨#[104,110]⟩,.func (.func K) #[] #[]]):=Lib.hid ⟨zaa hb3 ((Below.refl _ _).alloc (Nat.le_refl _) _),Blk.new _ _ _⟩
       have hge:=hb3.size
       clear hb3)
     |(have hz:=Blk.new w1.drew 117 #[.string ⟨#[]⟩,.nilFunc]
       have hb3:Below w1.heap.size w1 w2:=zab (zaa ((Below.refl w1.drew.heap.size w1.drew).alloc (Nat.le_refl _) (.cells #[.string ⟨#[]⟩,.nilFunc] 117)) hb2)
       have hS2:=HB.out w2 hb3
       have hz2:Blk w2 w1.heap.size 117 #[.string ⟨#[]⟩,.nilFunc]:=hz.below hb2 hz.lt
       have q0:=hz2.cell 0
       have q1:=hz2.cell 1
       have z0:=hz2.frozen 0
       have z1:=hz2.frozen 1
       have HX:Hid (Below w1.heap.size w1 ((w2.setCell ⟨w1.heap.size,0,none⟩ (.string ⟨#[104,110]⟩)).setCell ⟨w1.heap.size,1,none⟩ (.func (.func K) #[] #[]))∧Blk ((w2.setCell ⟨w1.heap.size,0,none⟩ (.string ⟨#[104,110]⟩)).setCell ⟨w1.heap.size,1,none⟩ (.func (.func K) #[] #[])) w1.heap.size 117 #[.string ⟨#[104,110]⟩,.func (.func K) #[] #[]]):=Lib.hid ⟨(hb3.setCell (p:=⟨w1.heap.size,0,none⟩) (Nat.le_refl _) _).setCell (p:=⟨w1.heap.size,1,none⟩) (Nat.le_refl _) _,(hz2.zbk 0 _).zbk 1 _⟩
       have hS3:=HB.out _ HX.out.1
       clear hz hb3 hz2)
    clear hm hb2))
 all_goals first
  |(generalize w2.alloc (.cells #[.string ⟨#[104,110]⟩,.func (.func K) #[] #[]] 117)=W3 at*
    obtain ⟨h3,k3⟩:=HX.out
    have HB3:=Lib.hid (zaa HB1.out h3)
    have HR3:=Lib.hid (fun w' (hb:Below W3.heap.size W3 w')=>HR1.out w' (zaa h3 hb))
    have HK3:=Lib.hid k3
    clear hS2 HX h3 k3 HR1 HB HB1 hg1 c0 hlk hlk2 HA HL hge
    generalize w2.heap.size=g3 at*)
  |(generalize (w2.setCell ⟨w1.heap.size,0,none⟩ (.string ⟨#[104,110]⟩)).setCell ⟨w1.heap.size,1,none⟩ (.func (.func K) #[] #[])=W3 at*
    obtain ⟨h3,k3⟩:=HX.out
    have HB3:=Lib.hid (zaa HB1.out h3)
    have HR3:=Lib.hid (fun w' (hb:Below W3.heap.size W3 w')=>HR1.out w' (zaa h3 hb))
    have HK3:=Lib.hid k3
    clear hS2 hS3 HX h3 k3 HR1 HB HB1 hg1 c0 hlk hlk2 HA HL q0 q1 z0 z1
    generalize w1.heap.size=g3 at*)
 all_goals
  have f0:=HK3.out.cell 0
  have f1:=HK3.out.cell 1
  have hg3:=HK3.out.lt
  rcases Nat.eq_zero_or_pos m with hm|hm
 all_goals
  first
   |(have HRm:=Lib.hid (fun w' (hb:Below W3.heap.size W3 w')=>(HR3.out w' hb).2 hm)
     subst hm)
   |(have HRm:=Lib.hid (fun w' (hb:Below W3.heap.size W3 w')=>(HR3.out w' hb).1)
     have hm2:¬m=0:=by omega
     have hm3:(1:Int)≤((m+1:Nat):Int):=by omega
     have hm4:(1:Int)≤(m:Int)+1:=by omega)
  clear HR3
  go_wp2_with fail
 all_goals
  go_region_held3 (fun w'=>w'.cell? ⟨g3,0,none⟩=some (.string ⟨#[104,110]⟩)) (first|exact hS5|exact f0|go_keep) (first
   |(go_at_call 55
     refine Calls.mono (HRm.out _ (by first|exact zad (Below.refl _ _)|exact zab ((Below.refl W3.drew.heap.size W3.drew).alloc (Nat.le_refl _) _))) ?_
     rintro e w4 ⟨A,n,c4,A2,n2,c2,rfl,hb4,hx⟩
     first
      |(have hb5:Below W3.heap.size W3 w4:=zab hb4
        have hS5:=(HK3.out.below hb5 HK3.out.lt).cell 0
        have HY:=Lib.hid (za8 hb5 fun y hy=>(hx y hy).2.2)
        have HN:=Lib.hid (fun y hy=>(hx y hy).1)
        have HN2:=Lib.hid (fun y hy=>(hx y hy).2.1)
        clear hb5)
      |(have hw:=za7 hb4 fun y hy=>(hx y hy).2.2
        have hb5:Below W3.heap.size W3 w4:=zab (zaa ((Below.refl W3.drew.heap.size W3.drew).alloc (Nat.le_refl _) _) hb4)
        have hS5:=(HK3.out.below hb5 HK3.out.lt).cell 0
        have hS6:=(HK3.out.below hw.2.1 HK3.out.lt).cell 0
        have q0:=hw.1.cell 0
        have q1:=hw.1.cell 1
        have z0:=hw.1.frozen 0
        have z1:=hw.1.frozen 1
        have HY:Hid (Below W3.heap.size W3 ((w4.setCell ⟨W3.heap.size,0,none⟩ (.slice A n c4)).setCell ⟨W3.heap.size,1,none⟩ (.slice A2 n2 c2))∧Blk ((w4.setCell ⟨W3.heap.size,0,none⟩ (.slice A n c4)).setCell ⟨W3.heap.size,1,none⟩ (.slice A2 n2 c2)) W3.heap.size 110 #[.slice A n c4,.slice A2 n2 c2]∧∀y,some ⟨[z],[n0]⟩=some y→zcJ ((w4.setCell ⟨W3.heap.size,0,none⟩ (.slice A n c4)).setCell ⟨W3.heap.size,1,none⟩ (.slice A2 n2 c2)) (.agg #[.slice A n c4,.slice A2 n2 c2]) y):=Lib.hid hw.2
        have HN:=Lib.hid (fun y hy=>(hx y hy).1)
        have HN2:=Lib.hid (fun y hy=>(hx y hy).2.1)
        clear hw hb5)
     clear hb4 hx))
 all_goals first
  |(obtain ⟨W5,hW5⟩:∃W5,W5=w4.alloc (.cells #[.slice A n c4,.slice A2 n2 c2] 110):=⟨_,rfl⟩
    rw [←hW5] at HY
    rw [←hW5]
    clear hW5
    obtain ⟨h5,k5,x5⟩:=HY.out
    have HB5:=Lib.hid h5
    have HK5:=Lib.hid k5
    have HX5:=Lib.hid x5
    clear hS5 HY h5 k5 x5 HRm f0 f1
    generalize w4.heap.size=g5 at*)
  |(obtain ⟨W5,hW5⟩:∃W5,W5=(w4.setCell ⟨W3.heap.size,0,none⟩ (.slice A n c4)).setCell ⟨W3.heap.size,1,none⟩ (.slice A2 n2 c2):=⟨_,rfl⟩
    rw [←hW5] at HY
    rw [←hW5]
    clear hW5
    obtain ⟨h5,k5,x5⟩:=HY.out
    have HB5:=Lib.hid h5
    have HK5:=Lib.hid k5
    have HX5:=Lib.hid x5
    clear hS5 hS6 HY h5 k5 x5 HRm q0 q1 z0 z1 f0 f1
    generalize hg5:W3.heap.size=g5 at HK5 ⊢
    clear hg5)
 all_goals
  have kc:=HK3.out.below HB5.out HK3.out.lt
  have f0:=kc.cell 0
  have f1:=kc.cell 1
  have v0:=HK5.out.cell 0
  have v1:=HK5.out.cell 1
  have hbW:=zaa HB3.out HB5.out
  have p0:=HP.out _ hbW
  obtain rfl:n=1:=HN.out _ rfl
  obtain rfl:n2=1:=HN2.out _ rfl
  obtain ⟨ad2,rfl,d2⟩:=zdF (HX5.out _ rfl)
  have HD5:=Lib.hid (HD.out W5 _ hbW (HX5.out _ rfl))
  clear kc hbW HK3 HB5 HK5 HB3 HX5 HN HN2 HD HP hsf
  go_wp2_with fail
  refine HD5.out.mono ?_
  rintro e w6 ⟨y1,y2,rfl,hq⟩
  have HQ6:=Lib.hid hq
  clear hq HD5
  go_wp2
  exact HQ6.out
end
end Go.Proofs.YthkfhfldoniolaaGreatDoor
namespace Go.Proofs.YthkfhfldoniolaaGreatDoor
open Go.RowKit
section
variable {av:Nat→Prop} {ea:Nat→Addr} {w W W':World} {pp k:Nat} {s:PlS} {line c:ByteArray} {t:List ByteArray} {q:Cmd}
set_option maxRecDepth 100000 in
theorem ask_k0 (hP:zaX av ea w W pp k s) (hW:zdz w) (hK:zcp ea w) (hs:line.size≤100000) (hl:zaI line=c::t) (n1:c≠zav) (n2:c≠zaP) (haq:zbZ c=some q) (hr:zaY q.form t=none):
 Calls Tryz.prog 28 #[.pointer (some ⟨pp,0,none⟩),.string line] W (zae av ea w pp (k+1) ((1,⟨#[]⟩),s) W):=by
 obtain ⟨_,hw,hEW,hpl⟩:=hP.base
 have hCW:=hW.below hw
 obtain ⟨tc,t2,t3⟩:=zaK hl hs
 have HS:=Lib.hid (zaT hl (by omega) W hCW)
 unfold zcL at HS
 have HR:=Lib.hid (zbp (W:=W) (c:=c) (t:=t) q.form (zbI q) hCW t2 t3)
 unfold zaW at HR
 have HB0:=Lib.hid (fun (w1 w2:World) (g:Nat) (hB:Blk w1 g 9 (zak (c::t)).toArray) (hb:Below w1.heap.size w1 w2)=>zbx hB hb)
 have n1':(c.toList==[104,111,115,116,115])=false:=zao n1
 have n2':(c.toList==[106,117,109,112])=false:=zao n2
 have HA:=Lib.hid (fun w1=>zbS w1)
 unfold zbs at HA
 have HL:=Lib.hid (fun (w2:World) (b:Nat) (hm:za0 b 4 zbZ w2)=>zb2 hm (by unfold maxLen;omega) haq)
 have HQ:Hid (∀w1,Below W.heap.size W w1→zae av ea w pp (k+1) ((1,⟨#[]⟩),s) W (.returned (.tuple #[.string ⟨#[]⟩,.iface 355 (.pointer (some (ea (gv 1))))])) w1):=Lib.hid fun w1 hb=>zem (za1 (by simp)) hP hb
 have HC:Hid (∀w1,Below W.heap.size W w1→w1.cell? ⟨1,0,none⟩=some (.iface 355 (.pointer (some (ea (gv 1)))))):=Lib.hid fun w1 hb=>(hK.below (zaa hw hb)).c1
 rw [hr] at HR
 generalize zae av ea w pp (k+1) ((1,⟨#[]⟩),s) W=PQ at*
 generalize (⟨q.form.toArray⟩:ByteArray)=F at*
 have eg:=zbH q
 generalize q.fn=K at*
 have hsf:=fun (W:World) (a:Addr) (m:Mode)=>run_store Tryz.prog W a (.func (.func K) #[] #[]) m rfl
 clear hK
 clear hP hW hs hl hw hEW hpl hCW t2 t3 tc hr n1 n2 haq
 go_enter Tryz.func28,Tryz.ntmps28
 go_wp2_with fail
 refine HS.out.mono ?_
 rintro e w1 ⟨g,rfl,hb1,hB1⟩
 have c0:=HB0.out w1 w1 g hB1 (Below.refl _ _)
 have HB:=Lib.hid (fun w2=>HB0.out w1 w2 g hB1)
 have HR1:=Lib.hid (fun w2 (hb:Below w1.heap.size w1 w2)=>HR.out w2 g (zaa hb1 hb) (hB1.below hb hB1.lt))
 have HB1:=Lib.hid hb1
 have hg1:=hB1.lt
 generalize t.length=m at*
 clear hb1 hB1 HR HB0 HS
 go_wp2_with fail
 go_region_held3 (fun w'=>w'.cell? ⟨g,0,none⟩=some (.string c)) (first|exact hS2|exact hS3|exact c0|go_keep) (first
  |(go_at_call 58
    refine (HA.out _).mono ?_
    rintro e w2 ⟨b,rfl,hm,hb2⟩
    have hlk:=HL.out w2 b hm
    have hlk2:=HL.out _ b (hm.below ((Below.refl w2.heap.size w2).alloc (Nat.le_refl _) (.cells #[.string ⟨#[]⟩,.nilFunc] 117)))
    first
     |(have hb3:Below w1.heap.size w1 w2:=zab hb2
       have hS2:=HB.out w2 hb3
       have HX:Hid (Below w1.heap.size w1 (w2.alloc (.cells #[.string F,.func (.func K) #[] #[]] 117))∧Blk (w2.alloc (.cells #[.string F,.func (.func K) #[] #[]] 117)) w2.heap.size 117 #[.string F,.func (.func K) #[] #[]]):=Lib.hid ⟨zaa hb3 ((Below.refl _ _).alloc (Nat.le_refl _) _),Blk.new _ _ _⟩
       have hge:=hb3.size
       clear hb3)
     |(have hz:=Blk.new w1.drew 117 #[.string ⟨#[]⟩,.nilFunc]
       have hb3:Below w1.heap.size w1 w2:=zab (zaa ((Below.refl w1.drew.heap.size w1.drew).alloc (Nat.le_refl _) (.cells #[.string ⟨#[]⟩,.nilFunc] 117)) hb2)
       have hS2:=HB.out w2 hb3
       have hz2:Blk w2 w1.heap.size 117 #[.string ⟨#[]⟩,.nilFunc]:=hz.below hb2 hz.lt
       have q0:=hz2.cell 0
       have q1:=hz2.cell 1
       have z0:=hz2.frozen 0
       have z1:=hz2.frozen 1
       have HX:Hid (Below w1.heap.size w1 ((w2.setCell ⟨w1.heap.size,0,none⟩ (.string F)).setCell ⟨w1.heap.size,1,none⟩ (.func (.func K) #[] #[]))∧Blk ((w2.setCell ⟨w1.heap.size,0,none⟩ (.string F)).setCell ⟨w1.heap.size,1,none⟩ (.func (.func K) #[] #[])) w1.heap.size 117 #[.string F,.func (.func K) #[] #[]]):=Lib.hid ⟨(hb3.setCell (p:=⟨w1.heap.size,0,none⟩) (Nat.le_refl _) _).setCell (p:=⟨w1.heap.size,1,none⟩) (Nat.le_refl _) _,(hz2.zbk 0 _).zbk 1 _⟩
       have hS3:=HB.out _ HX.out.1
       clear hz hb3 hz2)
    clear hm hb2))
 all_goals first
  |(generalize w2.alloc (.cells #[.string F,.func (.func K) #[] #[]] 117)=W3 at*
    obtain ⟨h3,k3⟩:=HX.out
    have HB3:=Lib.hid (zaa HB1.out h3)
    have HR3:=Lib.hid (fun w' (hb:Below W3.heap.size W3 w')=>HR1.out w' (zaa h3 hb))
    have HK3:=Lib.hid k3
    clear hS2 HX h3 k3 HR1 HB HB1 hg1 c0 hlk hlk2 HA HL hge
    generalize w2.heap.size=g3 at*)
  |(generalize (w2.setCell ⟨w1.heap.size,0,none⟩ (.string F)).setCell ⟨w1.heap.size,1,none⟩ (.func (.func K) #[] #[])=W3 at*
    obtain ⟨h3,k3⟩:=HX.out
    have HB3:=Lib.hid (zaa HB1.out h3)
    have HR3:=Lib.hid (fun w' (hb:Below W3.heap.size W3 w')=>HR1.out w' (zaa h3 hb))
    have HK3:=Lib.hid k3
    clear hS2 hS3 HX h3 k3 HR1 HB HB1 hg1 c0 hlk hlk2 HA HL q0 q1 z0 z1
    generalize w1.heap.size=g3 at*)
 all_goals
  have f0:=HK3.out.cell 0
  have f1:=HK3.out.cell 1
  have hg3:=HK3.out.lt
  rcases Nat.eq_zero_or_pos m with hm|hm
 all_goals
  first
   |(have HRm:=Lib.hid (fun w' (hb:Below W3.heap.size W3 w')=>(HR3.out w' hb).2 hm)
     subst hm)
   |(have HRm:=Lib.hid (fun w' (hb:Below W3.heap.size W3 w')=>(HR3.out w' hb).1)
     have hm2:¬m=0:=by omega
     have hm3:(1:Int)≤((m+1:Nat):Int):=by omega
     have hm4:(1:Int)≤(m:Int)+1:=by omega)
  clear HR3
  go_wp2_with fail
 all_goals
  go_region_held3 (fun w'=>w'.cell? ⟨g3,0,none⟩=some (.string F)) (first|exact hS5|exact f0|go_keep) (first
   |(go_at_call 55
     refine Calls.mono (HRm.out _ (by first|exact zad (Below.refl _ _)|exact zab ((Below.refl W3.drew.heap.size W3.drew).alloc (Nat.le_refl _) _))) ?_
     rintro e w4 ⟨A,n,c4,A2,n2,c2,rfl,hb4,hx⟩
     first
      |(have hb5:Below W3.heap.size W3 w4:=zab hb4
        have hS5:=(HK3.out.below hb5 HK3.out.lt).cell 0
        have HY:=Lib.hid (za8 hb5 fun y hy=>(hx y hy).2.2)
        have HN:=Lib.hid (fun y hy=>(hx y hy).1)
        have HN2:=Lib.hid (fun y hy=>(hx y hy).2.1)
        clear hb5)
      |(have hw:=za7 hb4 fun y hy=>(hx y hy).2.2
        have hb5:Below W3.heap.size W3 w4:=zab (zaa ((Below.refl W3.drew.heap.size W3.drew).alloc (Nat.le_refl _) _) hb4)
        have hS5:=(HK3.out.below hb5 HK3.out.lt).cell 0
        have hS6:=(HK3.out.below hw.2.1 HK3.out.lt).cell 0
        have q0:=hw.1.cell 0
        have q1:=hw.1.cell 1
        have z0:=hw.1.frozen 0
        have z1:=hw.1.frozen 1
        have HY:Hid (Below W3.heap.size W3 ((w4.setCell ⟨W3.heap.size,0,none⟩ (.slice A n c4)).setCell ⟨W3.heap.size,1,none⟩ (.slice A2 n2 c2))∧Blk ((w4.setCell ⟨W3.heap.size,0,none⟩ (.slice A n c4)).setCell ⟨W3.heap.size,1,none⟩ (.slice A2 n2 c2)) W3.heap.size 110 #[.slice A n c4,.slice A2 n2 c2]∧∀y,(none:Option Wd)=some y→zcJ ((w4.setCell ⟨W3.heap.size,0,none⟩ (.slice A n c4)).setCell ⟨W3.heap.size,1,none⟩ (.slice A2 n2 c2)) (.agg #[.slice A n c4,.slice A2 n2 c2]) y):=Lib.hid hw.2
        have HN:=Lib.hid (fun y hy=>(hx y hy).1)
        have HN2:=Lib.hid (fun y hy=>(hx y hy).2.1)
        clear hw hb5)
     clear hb4 hx))
 all_goals first
  |(obtain ⟨W5,hW5⟩:∃W5,W5=w4.alloc (.cells #[.slice A n c4,.slice A2 n2 c2] 110):=⟨_,rfl⟩
    rw [←hW5] at HY
    rw [←hW5]
    clear hW5
    obtain ⟨h5,k5,x5⟩:=HY.out
    have HB5:=Lib.hid h5
    have HK5:=Lib.hid k5
    have HX5:=Lib.hid x5
    clear hS5 HY h5 k5 x5 HRm f0 f1
    generalize w4.heap.size=g5 at*)
  |(obtain ⟨W5,hW5⟩:∃W5,W5=(w4.setCell ⟨W3.heap.size,0,none⟩ (.slice A n c4)).setCell ⟨W3.heap.size,1,none⟩ (.slice A2 n2 c2):=⟨_,rfl⟩
    rw [←hW5] at HY
    rw [←hW5]
    clear hW5
    obtain ⟨h5,k5,x5⟩:=HY.out
    have HB5:=Lib.hid h5
    have HK5:=Lib.hid k5
    have HX5:=Lib.hid x5
    clear hS5 hS6 HY h5 k5 x5 HRm q0 q1 z0 z1 f0 f1
    generalize hg5:W3.heap.size=g5 at HK5 ⊢
    clear hg5)
 all_goals
  have kc:=HK3.out.below HB5.out HK3.out.lt
  have f0:=kc.cell 0
  have f1:=kc.cell 1
  have v0:=HK5.out.cell 0
  have v1:=HK5.out.cell 1
  have hbW:=zaa HB3.out HB5.out
  have HQ1:=Lib.hid (HQ.out W5.drew (zad hbW))
  have e1:=HC.out W5 hbW
  clear kc hbW HK3 HB5 HK5 HB3 HX5 HN HN2 HQ HC hsf
  go_wp2_with fail
  go_region
  go_wp2
  exact HQ1.out
set_option maxRecDepth 100000 in
theorem ask_k1 (hP:zaX av ea w W pp k s) (hW:zdz w) (hK:zcp ea w) (hs:line.size≤100000) (hl:zaI line=c::t) (n1:c≠zav) (n2:c≠zaP) (haq:zbZ c=some q) {z:ByteArray} {n0:Nat} (hr:zaY q.form t=some ⟨[z],[n0]⟩) (hh:q.form=[104,110]) (hn0:1<n0):
 Calls Tryz.prog 28 #[.pointer (some ⟨pp,0,none⟩),.string line] W (zae av ea w pp (k+1) ((1,⟨#[]⟩),s) W):=by
 obtain ⟨_,hw,hEW,hpl⟩:=hP.base
 have hCW:=hW.below hw
 obtain ⟨tc,t2,t3⟩:=zaK hl hs
 have HS:=Lib.hid (zaT hl (by omega) W hCW)
 unfold zcL at HS
 have HR:=Lib.hid (zbp (W:=W) (c:=c) (t:=t) q.form (zbI q) hCW t2 t3)
 unfold zaW at HR
 have HB0:=Lib.hid (fun (w1 w2:World) (g:Nat) (hB:Blk w1 g 9 (zak (c::t)).toArray) (hb:Below w1.heap.size w1 w2)=>zbx hB hb)
 have n1':(c.toList==[104,111,115,116,115])=false:=zao n1
 have n2':(c.toList==[106,117,109,112])=false:=zao n2
 have HA:=Lib.hid (fun w1=>zbS w1)
 unfold zbs at HA
 have HL:=Lib.hid (fun (w2:World) (b:Nat) (hm:za0 b 4 zbZ w2)=>zb2 hm (by unfold maxLen;omega) haq)
 have HQ:Hid (∀w1,Below W.heap.size W w1→zae av ea w pp (k+1) ((1,⟨#[]⟩),s) W (.returned (.tuple #[.string ⟨#[]⟩,.iface 355 (.pointer (some (ea (gv 1))))])) w1):=Lib.hid fun w1 hb=>zem (za1 (by simp)) hP hb
 have HC:Hid (∀w1,Below W.heap.size W w1→w1.cell? ⟨1,0,none⟩=some (.iface 355 (.pointer (some (ea (gv 1)))))):=Lib.hid fun w1 hb=>(hK.below (zaa hw hb)).c1
 rw [hr] at HR
 rw [hh] at HR HL
 have b0:decide ((n0:Int)>1)=true:=by simp;omega
 generalize zae av ea w pp (k+1) ((1,⟨#[]⟩),s) W=PQ at*
 have eg:=zbH q
 generalize q.fn=K at*
 have hsf:=fun (W:World) (a:Addr) (m:Mode)=>run_store Tryz.prog W a (.func (.func K) #[] #[]) m rfl
 clear hK
 clear hP hW hs hl hw hEW hpl hCW t2 t3 tc hr n1 n2 haq
 clear hh
 go_enter Tryz.func28,Tryz.ntmps28
 go_wp2_with fail
 refine HS.out.mono ?_
 rintro e w1 ⟨g,rfl,hb1,hB1⟩
 have c0:=HB0.out w1 w1 g hB1 (Below.refl _ _)
 have HB:=Lib.hid (fun w2=>HB0.out w1 w2 g hB1)
 have HR1:=Lib.hid (fun w2 (hb:Below w1.heap.size w1 w2)=>HR.out w2 g (zaa hb1 hb) (hB1.below hb hB1.lt))
 have HB1:=Lib.hid hb1
 have hg1:=hB1.lt
 generalize t.length=m at*
 clear hb1 hB1 HR HB0 HS
 go_wp2_with fail
 go_region_held3 (fun w'=>w'.cell? ⟨g,0,none⟩=some (.string c)) (first|exact hS2|exact hS3|exact c0|go_keep) (first
  |(go_at_call 58
    refine (HA.out _).mono ?_
    rintro e w2 ⟨b,rfl,hm,hb2⟩
    have hlk:=HL.out w2 b hm
    have hlk2:=HL.out _ b (hm.below ((Below.refl w2.heap.size w2).alloc (Nat.le_refl _) (.cells #[.string ⟨#[]⟩,.nilFunc] 117)))
    first
     |(have hb3:Below w1.heap.size w1 w2:=zab hb2
       have hS2:=HB.out w2 hb3
       have HX:Hid (Below w1.heap.size w1 (w2.alloc (.cells #[.string ⟨#[104,110]⟩,.func (.func K) #[] #[]] 117))∧Blk (w2.alloc (.cells #[.string ⟨#[104,110]⟩,.func (.func K) #[] #[]] 117)) w2.heap.size 117 #[.string ⟨#[104,110]⟩,.func (.func K) #[] #[]]):=Lib.hid ⟨zaa hb3 ((Below.refl _ _).alloc (Nat.le_refl _) _),Blk.new _ _ _⟩
       have hge:=hb3.size
       clear hb3)
     |(have hz:=Blk.new w1.drew 117 #[.string ⟨#[]⟩,.nilFunc]
       have hb3:Below w1.heap.size w1 w2:=zab (zaa ((Below.refl w1.drew.heap.size w1.drew).alloc (Nat.le_refl _) (.cells #[.string ⟨#[]⟩,.nilFunc] 117)) hb2)
       have hS2:=HB.out w2 hb3
       have hz2:Blk w2 w1.heap.size 117 #[.string ⟨#[]⟩,.nilFunc]:=hz.below hb2 hz.lt
       have q0:=hz2.cell 0
       have q1:=hz2.cell 1
       have z0:=hz2.frozen 0
       have z1:=hz2.frozen 1
       have HX:Hid (Below w1.heap.size w1 ((w2.setCell ⟨w1.heap.size,0,none⟩ (.string ⟨#[104,110]⟩)).setCell ⟨w1.heap.size,1,none⟩ (.func (.func K) #[] #[]))∧Blk ((w2.setCell ⟨w1.heap.size,0,none⟩ (.string ⟨#[104,110]⟩)).setCell ⟨w1.heap.size,1,none⟩ (.func (.func K) #[] #[])) w1.heap.size 117 #[.string ⟨#[104,110]⟩,.func (.func K) #[] #[]]):=Lib.hid ⟨(hb3.setCell (p:=⟨w1.heap.size,0,none⟩) (Nat.le_refl _) _).setCell (p:=⟨w1.heap.size,1,none⟩) (Nat.le_refl _) _,(hz2.zbk 0 _).zbk 1 _⟩
       have hS3:=HB.out _ HX.out.1
       clear hz hb3 hz2)
    clear hm hb2))
 all_goals first
  |(generalize w2.alloc (.cells #[.string ⟨#[104,110]⟩,.func (.func K) #[] #[]] 117)=W3 at*
    obtain ⟨h3,k3⟩:=HX.out
    have HB3:=Lib.hid (zaa HB1.out h3)
    have HR3:=Lib.hid (fun w' (hb:Below W3.heap.size W3 w')=>HR1.out w' (zaa h3 hb))
    have HK3:=Lib.hid k3
    clear hS2 HX h3 k3 HR1 HB HB1 hg1 c0 hlk hlk2 HA HL hge
    generalize w2.heap.size=g3 at*)
  |(generalize (w2.setCell ⟨w1.heap.size,0,none⟩ (.string ⟨#[104,110]⟩)).setCell ⟨w1.heap.size,1,none⟩ (.func (.func K) #[] #[])=W3 at*
    obtain ⟨h3,k3⟩:=HX.out
    have HB3:=Lib.hid (zaa HB1.out h3)
    have HR3:=Lib.hid (fun w' (hb:Below W3.heap.size W3 w')=>HR1.out w' (zaa h3 hb))
    have HK3:=Lib.hid k3
    clear hS2 hS3 HX h3 k3 HR1 HB HB1 hg1 c0 hlk hlk2 HA HL q0 q1 z0 z1
    generalize w1.heap.size=g3 at*)
 all_goals
  have f0:=HK3.out.cell 0
  have f1:=HK3.out.cell 1
  have hg3:=HK3.out.lt
  rcases Nat.eq_zero_or_pos m with hm|hm
 all_goals
  first
   |(have HRm:=Lib.hid (fun w' (hb:Below W3.heap.size W3 w')=>(HR3.out w' hb).2 hm)
     subst hm)
   |(have HRm:=Lib.hid (fun w' (hb:Below W3.heap.size W3 w')=>(HR3.out w' hb).1)
     have hm2:¬m=0:=by omega
     have hm3:(1:Int)≤((m+1:Nat):Int):=by omega
     have hm4:(1:Int)≤(m:Int)+1:=by omega)
  clear HR3
  go_wp2_with fail
 all_goals
  go_region_held3 (fun w'=>w'.cell? ⟨g3,0,none⟩=some (.string ⟨#[104,110]⟩)) (first|exact hS5|exact f0|go_keep) (first
   |(go_at_call 55
     refine Calls.mono (HRm.out _ (by first|exact zad (Below.refl _ _)|exact zab ((Below.refl W3.drew.heap.size W3.drew).alloc (Nat.le_refl _) _))) ?_
     rintro e w4 ⟨A,n,c4,A2,n2,c2,rfl,hb4,hx⟩
     first
      |(have hb5:Below W3.heap.size W3 w4:=zab hb4
        have hS5:=(HK3.out.below hb5 HK3.out.lt).cell 0
        have HY:=Lib.hid (za8 hb5 fun y hy=>(hx y hy).2.2)
        have HN:=Lib.hid (fun y hy=>(hx y hy).1)
        have HN2:=Lib.hid (fun y hy=>(hx y hy).2.1)
        clear hb5)
      |(have hw:=za7 hb4 fun y hy=>(hx y hy).2.2
        have hb5:Below W3.heap.size W3 w4:=zab (zaa ((Below.refl W3.drew.heap.size W3.drew).alloc (Nat.le_refl _) _) hb4)
        have hS5:=(HK3.out.below hb5 HK3.out.lt).cell 0
        have hS6:=(HK3.out.below hw.2.1 HK3.out.lt).cell 0
        have q0:=hw.1.cell 0
        have q1:=hw.1.cell 1
        have z0:=hw.1.frozen 0
        have z1:=hw.1.frozen 1
        have HY:Hid (Below W3.heap.size W3 ((w4.setCell ⟨W3.heap.size,0,none⟩ (.slice A n c4)).setCell ⟨W3.heap.size,1,none⟩ (.slice A2 n2 c2))∧Blk ((w4.setCell ⟨W3.heap.size,0,none⟩ (.slice A n c4)).setCell ⟨W3.heap.size,1,none⟩ (.slice A2 n2 c2)) W3.heap.size 110 #[.slice A n c4,.slice A2 n2 c2]∧∀y,some ⟨[z],[n0]⟩=some y→zcJ ((w4.setCell ⟨W3.heap.size,0,none⟩ (.slice A n c4)).setCell ⟨W3.heap.size,1,none⟩ (.slice A2 n2 c2)) (.agg #[.slice A n c4,.slice A2 n2 c2]) y):=Lib.hid hw.2
        have HN:=Lib.hid (fun y hy=>(hx y hy).1)
        have HN2:=Lib.hid (fun y hy=>(hx y hy).2.1)
        clear hw hb5)
     clear hb4 hx))
 all_goals first
  |(obtain ⟨W5,hW5⟩:∃W5,W5=w4.alloc (.cells #[.slice A n c4,.slice A2 n2 c2] 110):=⟨_,rfl⟩
    rw [←hW5] at HY
    rw [←hW5]
    clear hW5
    obtain ⟨h5,k5,x5⟩:=HY.out
    have HB5:=Lib.hid h5
    have HK5:=Lib.hid k5
    have HX5:=Lib.hid x5
    clear hS5 HY h5 k5 x5 HRm f0 f1
    generalize w4.heap.size=g5 at*)
  |(obtain ⟨W5,hW5⟩:∃W5,W5=(w4.setCell ⟨W3.heap.size,0,none⟩ (.slice A n c4)).setCell ⟨W3.heap.size,1,none⟩ (.slice A2 n2 c2):=⟨_,rfl⟩
    rw [←hW5] at HY
    rw [←hW5]
    clear hW5
    obtain ⟨h5,k5,x5⟩:=HY.out
    have HB5:=Lib.hid h5
    have HK5:=Lib.hid k5
    have HX5:=Lib.hid x5
    clear hS5 hS6 HY h5 k5 x5 HRm q0 q1 z0 z1 f0 f1
    generalize hg5:W3.heap.size=g5 at HK5 ⊢
    clear hg5)
 all_goals
  have kc:=HK3.out.below HB5.out HK3.out.lt
  have f0:=kc.cell 0
  have f1:=kc.cell 1
  have v0:=HK5.out.cell 0
  have v1:=HK5.out.cell 1
  have hbW:=zaa HB3.out HB5.out
  obtain rfl:n=1:=HN.out _ rfl
  obtain rfl:n2=1:=HN2.out _ rfl
  obtain ⟨ad2,rfl,d2⟩:=zdF (HX5.out _ rfl)
  have HQ1:=Lib.hid (HQ.out W5.drew (zad hbW))
  have e1:=HC.out W5 hbW
  clear kc hbW HK3 HB5 HK5 HB3 HX5 HN HN2 HQ HC hsf
  go_wp2_with fail
  go_region
  go_wp2
  exact HQ1.out
end
end Go.Proofs.YthkfhfldoniolaaGreatDoor
