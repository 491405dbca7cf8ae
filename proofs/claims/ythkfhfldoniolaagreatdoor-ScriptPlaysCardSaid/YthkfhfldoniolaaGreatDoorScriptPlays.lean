/-
  The law ScriptPlays: its walk.
-/
import Derived.Test.YthkfhfldoniolaaGreatDoorAnsB
import Derived.Test.YthkfhfldoniolaaGreatDoorScriptAgain
set_option maxHeartbeats 4000000
namespace Go.Proofs.YthkfhfldoniolaaGreatDoor
open Go.RowKit
theorem splays_skip {ea:Nat→Addr} {A:Option Addr} {cap n:Nat} (w:World) (hE:ErrsS ea w) (hW:zdz w) (hG:zbK w) (_hm:n≤maxLen) (h:60<n):
 Calls Tryz.prog 3 #[.slice A n cap] w (True1 w):=by
 unfold maxLen at _hm
 have HW:=Lib.hid (hello_any w hE hW hG)
 have d1:decide ((n:Int)>60)=true:=by simp;omega
 clear hE hW hG h
 go_enter Tryz.func3,Tryz.ntmps3
 go_wp2_with fail
 refine HW.out.mono ?_
 rintro e w1 ⟨rfl,hb1⟩
 have HB:=Lib.hid hb1
 clear hb1 HW
 go_wp2
 go_ret
 exact ⟨rfl,HB.out⟩
theorem plays_start {w w1:World} (hb:Below w.heap.size w w1):zdf w (w1.alloc (.cells #[.pointer none,.slice none 0 0,.int .i64 0] 28)) w1.heap.size 0 ⟨none,0⟩ (.slice none 0 0) [] (.slice none 0 0) []:=by
 have hb2:Below w.heap.size w (w1.alloc (.cells #[.pointer none,.slice none 0 0,.int .i64 0] 28)):=hb.alloc hb.size _
 exact ⟨⟨Blk.new _ _ _,rfl,hb.size,hb2⟩,World.ownsRow_nil _ _ _ _,World.ownsRow_nil _ _ _ _,hb2,fun g hg=>by simp [Value.ownBlock] at hg,fun g hg=>by simp [Value.ownBlock] at hg,fun g hg=>by simp [Value.ownBlock] at hg⟩
theorem scrS_all (L:List ByteArray) (h:L.length≤60):PlOk L.length (zcH L).2∧KyOk (zcH L).2∧(zcH L).1.length=L.length:=by
 have h1:=scrS_ok L L.length (Nat.le_refl _) (by omega)
 have h2:=scrS_ky L L.length (Nat.le_refl _) (by omega)
 have h3:=scrS_len L L.length (Nat.le_refl _)
 rw [List.take_length] at h1 h2 h3
 exact ⟨h1,h2,h3⟩
theorem scrS_one (L:List ByteArray) (x:ByteArray):zcH (L++[x])=((zcH L).1++[zbX (zcu (zcH L).2 x).1],(zcu (zcH L).2 x).2):=by
 rw [scrS_append]
 rfl
theorem plays_ans {ea:Nat→Addr} {w wr:World} {mp:Nat} {L:List ByteArray} {lv wv:Value} {x:zcT} (hE:zd4 ea w) (hx:zc3 w x) (hs:longS x=false) (hL:L.length≤60) (hP:zdf w wr mp L.length (zcH L).2 lv L wv (zcH L).1) {t:ByteArray} (ht:zcW x.word x.h x.n=some t) {w2:World} (hb:Below wr.heap.size wr w2):
 Calls Tryz.prog 9 #[.pointer (some ⟨mp,0,none⟩),.agg #[.string x.word,.slice x.A x.h.length x.c,.slice x.A2 x.n.length x.c2]] w2 fun e w'=>e= .returned (.string (zbX (zcu (zcH L).2 t).1))∧zdf w w' mp (L.length+1) (zcu (zcH L).2 t).2 lv L wv (zcH L).1:=by
 obtain ⟨h1,h2,_⟩:=scrS_all L hL
 have h30:x.h.length≤30:=by
  unfold longS at hs
  simp only [Bool.or_eq_false_iff] at hs
  exact longH_len hs.2
 have hP2:=hP.below hb
 rw [playS_lineT ht]
 exact (answer_any hE x hx h30 ht hP2.m h1 h2 hL).mono fun e w' h=>hP2.ans h
set_option maxRecDepth 100000 in
theorem splays_walk {ea:Nat→Addr} {A:Option Addr} {cap:Nat} {l:List zcT} (w:World) (hE:ErrsS ea w) (hW:zdz w) (hG:zbK w) (hr:Reads w w.heap.size 3 A l.length (slsC l)) (hok:∀x∈l,zc3 w x) (hl:l.length≤60):
 Calls Tryz.prog 3 #[.slice A l.length cap] w (True1 w):=by
 obtain ⟨i0,hi,hz0,hz1,hz2⟩:=info_parts zc6
 have HW:=Lib.hid (hello_any w hE hW hG)
 have d1:decide ((l.length:Int)>60)=false:=by simp;omega
 have HAt:Hid (∀W i (h:i<l.length),Below w.heap.size w W→∃ad,A=some ad∧SLineAt W ad i l[i]):=Lib.hid fun W i h hb=>sLineAt_of hr hb h
 have HOk:Hid (∀W i (h:i<l.length),Below w.heap.size w W→zc3 W l[i]):=Lib.hid fun W i h hb=>(hok _ (List.getElem_mem h)).below hb
 have HAns:Hid (∀mp wr L lv wv i (hi:i<l.length),longS l[i]=false→L.length≤60→zdf w wr mp L.length (zcH L).2 lv L wv (zcH L).1→∀t,zcW l[i].word l[i].h l[i].n=some t→∀w2,Below wr.heap.size wr w2→Calls Tryz.prog 9 #[.pointer (some ⟨mp,0,none⟩),.agg #[.string l[i].word,.slice l[i].A l[i].h.length l[i].c,.slice l[i].A2 l[i].n.length l[i].c2]] w2 fun e w'=>e= .returned (.string (zbX (zcu (zcH L).2 t).1))∧zdf w w' mp (L.length+1) (zcu (zcH L).2 t).2 lv L wv (zcH L).1):=Lib.hid fun mp wr L lv wv i hi hs hL hP t ht w2 hb=>plays_ans hE.b.t (hok _ (List.getElem_mem hi)) hs hL hP ht hb
 have HRun:Hid (∀W O oc L,Below w.heap.size w W→zcr W O oc L→L.length≤60→(∀y∈L,y.size≤100000)→Calls Tryz.prog 10 #[.slice O L.length oc] W (RunGives L W)):=Lib.hid fun W O oc L hb hT h40 hz=>run_gives W (hE.below hb) (hW.below hb) (hG.below hb) hT (by omega) hz
 clear hE hW hG hr hok
 go_enter Tryz.func3,Tryz.ntmps3
 go_wp2_with fail
 refine HW.out.mono ?_
 rintro e w1 ⟨rfl,hb1⟩
 have HB1:=Lib.hid hb1
 have HStart:=Lib.hid (plays_start hb1)
 clear hb1 HW
 go_wp2_with fail
 clear d1
 go_loopw [4,5,7] (fun lv wv iv wr=>∃(i:Nat) (O:Option Addr) (oc:Nat) (Pp:Option Addr) (pc:Nat) (L:List ByteArray),lv= .slice O L.length oc∧wv= .slice Pp L.length pc∧iv= .int .i64 (i:Int)∧i≤l.length∧Hid (L=zeA (l.take i)∧zdf w wr w1.heap.size L.length (zcH L).2 (.slice O L.length oc) L (.slice Pp L.length pc) (zcH L).1∧∀x∈l.take i,longS x=false)) (fun _ _ iv _=>l.length- (intOf iv).toNat)
 case atStart=>exact ⟨0,none,0,none,0,[],rfl,rfl,rfl,Nat.zero_le _,Lib.hid ⟨rfl,HStart.out,fun x hx=>by simp at hx⟩⟩
 case round=>
  obtain ⟨i,O,oc,Pp,pc,L,rfl,rfl,rfl,hi2,hR⟩:=hrel
  have hbr:=hR.out.2.1.b
  have hL60:L.length≤i:=by
   rw [hR.out.1]
   have:=linesT_len (l.take i)
   rw [List.length_take] at this
   omega
  by_cases hlt:i<l.length
  ·obtain ⟨ad,rfl,hc⟩:=HAt.out wr i hlt hbr
   have hok:=HOk.out wr i hlt hbr
   have hlt2:(i:Int)<(l.length:Int):=by omega
   have HLong:=Lib.hid (longHosts_any l[i].A l[i].c wr.heap.size l[i].h wr hok.r (Nat.le_trans hok.hc hok.hm) hok.s)
   unfold LongIs at HLong
   have HBr:=Lib.hid hbr
   have hways:=long_ways l[i]
   have HSome:=Lib.hid (fun s (h:zcW l[i].word l[i].h l[i].n=some s)=>linesT_some hlt h)
   have HNone:=Lib.hid (fun (h:zcW l[i].word l[i].h l[i].n=none)=>linesT_none hlt h)
   have HTk:=Lib.hid (List.take_succ_eq_append_getElem hlt)
   have HAn:=Lib.hid (fun h=>HAns.out w1.heap.size wr L (.slice O L.length oc) (.slice Pp L.length pc) i hlt h (by omega) hR.out.2.1)
   have HCell:Hid (∀w2,Below wr.heap.size wr w2→SLineAt w2 ad i l[i]):=Lib.hid fun w2 hb=>⟨(hb.cell (World.block_lt_of_cell? _ _ hc.c0)).trans hc.c0,(hb.cell (World.block_lt_of_cell? _ _ hc.c1)).trans hc.c1,(hb.cell (World.block_lt_of_cell? _ _ hc.c2)).trans hc.c2⟩
   obtain ⟨c0,c1,c2⟩:=hc
   have HK:=Lib.hid hok
   have hmw:=hok.w
   have hmn:=Nat.le_trans hok.hc2 hok.hm2
   unfold maxLen at hmw hmn
   clear hok hbr HAns
   generalize l[i]=x at*
   obtain ⟨xw,xh,xn,xA,xc,xA2,xc2⟩:=x
   dsimp only at c0 c1 c2 HLong hways HSome HNone hmw hmn HAn
   rcases hways with ⟨hlg,u1|⟨u1,u2⟩|⟨u1,u2,u3⟩⟩|⟨hsh,u1,u2,u3⟩
   ·clear HAn
    go_wp2
    go_ret
    exact ⟨rfl,HBr.out⟩
   ·clear HAn
    go_wp2
    go_ret
    exact ⟨rfl,HBr.out⟩
   ·rw [u3] at HLong
    clear hlg HAn
    go_wp2_with fail
    refine HLong.out.mono ?_
    rintro e w2 ⟨rfl,rfl⟩
    go_wp2
    go_ret
    exact ⟨rfl,HBr.out⟩
   ·rw [u3] at HLong
    have HLn:=Lib.hid (lineOf_any ⟨xw,xh,xn,xA,xc,xA2,xc2⟩ wr HK.out (by show xw.size≤60;have:=of_decide_eq_false u2;omega) (longH_len u3) (by show xn.length≤5;have:=of_decide_eq_false u1;omega))
    dsimp only at HLn
    have HShort:Hid (∀y∈l.take (i+1),longS y=false):=Lib.hid fun y hy=>by
     rw [HTk.out] at hy
     rcases List.mem_append.1 hy with hy|hy
     ·exact hR.out.2.2 y hy
     ·rw [List.mem_singleton] at hy
      subst hy
      exact hsh
    have HAs:=Lib.hid (HAn.out hsh)
    have HLe:=Lib.hid hR.out.1
    have HP:=Lib.hid hR.out.2.1
    clear hR hsh HTk HK u3 HAn
    cases ho:zcW xw xh xn with
    |none=>
     rw [ho] at HLn
     unfold lineV at HLn
     simp only [Option.getD_none,Option.isSome_none] at HLn
     have HLx:Hid (L=zeA (l.take (i+1))):=Lib.hid (by rw [HNone.out ho];exact HLe.out)
     clear HNone HSome HLe ho HAs
     go_wp2_with fail
     refine HLong.out.mono ?_
     rintro e w2 ⟨rfl,rfl⟩
     go_wp2_with fail
     refine HLn.out.mono ?_
     rintro e w2 ⟨rfl,hb2⟩
     have HN:=Lib.hid (HP.out.below hb2)
     clear hb2 HP HLn HLong
     go_wp2_with fail
     go_roundw
     case rel=>exact ⟨i+1,O,oc,Pp,pc,L,rfl,rfl,by go_num,by omega,Lib.hid ⟨HLx.out,HN.out,HShort.out⟩⟩
     case measure=>simp [intOf];omega
    |some s=>
     have HAn:=Lib.hid (HAs.out s ho)
     rw [ho] at HLn
     unfold lineV at HLn
     simp only [Option.getD_some,Option.isSome_some] at HLn
     have HLx:Hid (L++[s]=zeA (l.take (i+1))):=Lib.hid (by rw [HSome.out s ho,←HLe.out])
     have HSc:=Lib.hid (scrS_one L s)
     have HLw:=Lib.hid (scrS_all L (by omega)).2.2
     have HLl:Hid ((L++[s]).length=L.length+1):=Lib.hid (by simp)
     clear HNone HSome HLe ho HAs HP
     generalize zbX (zcu (zcH L).2 s).1=tx at*
     generalize (zcu (zcH L).2 s).2=s1 at*
     generalize (zcH L).1=wx at*
     have HApp:Hid (∀w3,zdf w w3 w1.heap.size (L.length+1) s1 (.slice O L.length oc) L (.slice Pp L.length pc) wx→(w3.alloc (.cells #[.string s] 9)).ownsRow w.heap.size 9 1 (.slice O L.length oc) L.length (zak L)∧w.heap.size≤(w3.alloc (.cells #[.string s] 9)).heap.size∧
      ∀v' W',W'.ownsRow w.heap.size 9 1 v' (L.length+1) (zak L++[.string s])→(w3.alloc (.cells #[.string s] 9)).grownBy W' (Value.slice O L.length oc).ownBlock→(v'.ownBlock=(Value.slice O L.length oc).ownBlock∨v'.ownBlock=some (w3.alloc (.cells #[.string s] 9)).heap.size)→∃O' oc',v'= .slice O' (L.length+1) oc'∧
       Hid (zdf w W' w1.heap.size (L.length+1) s1 (.slice O' (L.length+1) oc') (L++[s]) (.slice Pp L.length pc) wx)):=Lib.hid fun w3 h3=>by
      have h4:=h3.below ((Below.refl w3.heap.size w3).alloc (Nat.le_refl _) (.cells #[.string s] 9))
      refine ⟨h4.l,h4.b.size,fun v' W' g1 g2 g3=> ?_⟩
      obtain ⟨O',oc',hv,_⟩:=zai g1
      subst hv
      exact ⟨O',oc',rfl,Lib.hid (h4.appL g1 g2 g3)⟩
     have HApp2:Hid (∀O' oc' w4,zdf w w4 w1.heap.size (L.length+1) s1 (.slice O' (L.length+1) oc') (L++[s]) (.slice Pp L.length pc) wx→(w4.alloc (.cells #[.string tx] 9)).ownsRow w.heap.size 9 1 (.slice Pp L.length pc) L.length (zak wx)∧w.heap.size≤(w4.alloc (.cells #[.string tx] 9)).heap.size∧
      ∀v' W',W'.ownsRow w.heap.size 9 1 v' (L.length+1) (zak wx++[.string tx])→(w4.alloc (.cells #[.string tx] 9)).grownBy W' (Value.slice Pp L.length pc).ownBlock→(v'.ownBlock=(Value.slice Pp L.length pc).ownBlock∨v'.ownBlock=some (w4.alloc (.cells #[.string tx] 9)).heap.size)→∃P' pc',v'= .slice P' (L.length+1) pc'∧
       Hid (zdf w W' w1.heap.size (L.length+1) s1 (.slice O' (L.length+1) oc') (L++[s]) (.slice P' (L.length+1) pc') (wx++[tx]))):=Lib.hid fun O' oc' w4 h3=>by
      have h4:=h3.below ((Below.refl w4.heap.size w4).alloc (Nat.le_refl _) (.cells #[.string tx] 9))
      have hr:=h4.r
      rw [HLw.out] at hr
      refine ⟨hr,h4.b.size,fun v' W' g1 g2 g3=> ?_⟩
      obtain ⟨P',pc',hv,_⟩:=zai g1
      subst hv
      exact ⟨P',pc',rfl,Lib.hid (h4.appW (by rw [HLw.out];exact g1) g2 g3)⟩
     go_wp2_with fail
     refine HLong.out.mono ?_
     rintro e w2 ⟨rfl,rfl⟩
     go_wp2_with fail
     refine HLn.out.mono ?_
     rintro e w2 ⟨rfl,hb2⟩
     have HAn2:=Lib.hid (HAn.out w2 hb2)
     obtain ⟨e0,e1,e2⟩:=HCell.out w2 hb2
     dsimp only at e0 e1 e2
     clear hb2 HLn HLong HAn HCell c0 c1 c2
     go_wp2_with fail
     refine HAn2.out.mono ?_
     rintro e w3 ⟨rfl,h3⟩
     obtain ⟨hO,hs,hA⟩:=HApp.out w3 h3
     have HA:=Lib.hid hA
     clear h3 hA HApp HAn2 e0 e1 e2
     go_wp2_with (first
      |(at_builtin
        refine zbU rfl (.tmp 71) (.tmp 73) _ rfl w.heap.size 9 i0 _ 1 16 Tryz.underlying24 hi hz0 hz1 hz2 rfl (by decide) _ L.length _ rfl hO ⟨w3.heap.size,0,none⟩ 1 1 (by decide) [.string s] rfl rfl (cell_one_new _ _ _) (by simp [Value.oneCell']) (by simp only [maxLen];omega) (by omega) hs ?_
        intro v' W4 h1 h2 h3
        obtain ⟨O',oc',hv,HP4⟩:=HA.out v' W4 h1 h2 h3
        subst hv
        obtain ⟨hO2,hs2,hA2⟩:=HApp2.out O' oc' W4 HP4.out
        have HA2:=Lib.hid hA2
        clear h1 h2 h3 hO hs HA hA2 HApp2 HP4)
      |(at_builtin
        go_must (refine zbU rfl (.tmp 75) (.tmp 77) _ rfl w.heap.size 9 i0 _ 1 16 Tryz.underlying24 hi hz0 hz1 hz2 rfl (by decide) _ L.length _ rfl hO2 ⟨W4.heap.size,0,none⟩ 1 1 (by decide) [.string tx] rfl rfl (cell_one_new _ _ _) (by simp [Value.oneCell']) (by simp only [maxLen];omega) (by omega) hs2 ?_)
        intro v2 W5 h1 h2 h3
        obtain ⟨P',pc',hv2,HP5⟩:=HA2.out v2 W5 h1 h2 h3
        subst hv2
        clear h1 h2 h3 hO2 hs2 HA2))
     go_roundw
     case rel=>exact ⟨i+1,O',oc',P',pc',L++[s],by rw [HLl.out],by rw [HLl.out],by go_num,by omega,Lib.hid ⟨HLx.out,by rw [HLl.out,HSc.out];exact HP5.out,HShort.out⟩⟩
     case measure=>simp [intOf];omega
  ·obtain rfl:i=l.length:=by omega
   obtain ⟨hL,hP,hsh⟩:=hR.out
   rw [List.take_length] at hL hsh
   have hz:∀y∈L,y.size≤100000:=by rw [hL];exact linesT_small hsh
   have HR5:=Lib.hid (HRun.out wr O oc L hbr ⟨Reads.zbv hP.l,row_cap hP.l,by unfold maxLen;omega,fun s hs=>by have:=hz s hs;unfold maxLen;omega⟩ (by omega) hz)
   have hlw:=(scrS_all L (by omega)).2.2
   have hpr:=hP.r
   rw [hlw] at hpr
   have HSame:Hid (∀w6 A6 c6,Below wr.heap.size wr w6→Reads w6 w6.heap.size 1 A6 L.length (zak (zcH L).1)→Calls Tryz.prog 11 #[.slice A6 L.length c6,.slice Pp L.length pc] w6 (YesQ w6)):=Lib.hid fun w6 A6 c6 hb6 hr6=>by
    have h2:=Reads.zbv (own_below hpr hb6)
    have:=zfA A6 Pp c6 pc w6.heap.size (zcH L).1 w6 (by rw [hlw];exact hr6) (by rw [hlw];exact h2) (by rw [hlw];unfold maxLen;omega)
    rwa [hlw] at this
   unfold RunGives at HR5
   have HB:=Lib.hid hbr
   clear hL hP hsh hR hz hbr HRun hpr hlw HAt HOk HAns
   go_wp2_with fail
   refine HR5.out.mono ?_
   rintro e w6 ⟨A6,c6,rfl,hr6,hA6,hc6,hb6⟩
   have HS:=Lib.hid (HSame.out w6 A6 c6 hb6 hr6)
   unfold YesQ at HS
   have HB6:=Lib.hid (zaa HB.out hb6)
   clear hr6 hb6 HR5 HSame HB
   go_wp2_with fail
   refine HS.out.mono ?_
   rintro e w8 ⟨rfl,m8,rfl⟩
   have HB8:=Lib.hid (below_drewN HB6.out m8)
   clear HS HB6
   go_wp2
   go_ret
   exact ⟨rfl,HB8.out⟩
theorem splays_any {ea:Nat→Addr} {A:Option Addr} {cap:Nat} {l:List zcT} (w:World) (hE:ErrsS ea w) (hW:zdz w) (hG:zbK w) (hr:Reads w w.heap.size 3 A l.length (slsC l)) (hm:l.length≤maxLen) (hok:∀x∈l,zc3 w x):
 Calls Tryz.prog 3 #[.slice A l.length cap] w (True1 w):=by
 by_cases h:60<l.length
 ·exact splays_skip w hE hW hG hm h
 ·exact splays_walk w hE hW hG hr hok (by omega)
end Go.Proofs.YthkfhfldoniolaaGreatDoor
