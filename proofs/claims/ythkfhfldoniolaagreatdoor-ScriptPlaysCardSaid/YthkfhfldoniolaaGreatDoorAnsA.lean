/-
  The law's answer: a balance's commands. The law's answer: no hosts yet; hosts; jump.
-/
import Derived.Test.YthkfhfldoniolaaGreatDoorModelA
set_option maxHeartbeats 2000000
namespace Go.Proofs.YthkfhfldoniolaaGreatDoor
open Go.RowKit
section
variable {w W W':World} {mp n c now:Nat} {p:RBp} {A:Option Addr} {hs:List ByteArray} {s s':BS}
theorem ans_of {r:(Nat×ByteArray)×PlS} {t:ByteArray} (ht:t=zbX r.1) (hb:r.2.b=some (hs,s)) (hn:r.2.now=now) (hM:∃p',zdO w W' mp n p' A c hs s now) (hT:zfe w.heap.size mp W W'):zat w mp n r W (.returned (.string t)) W':=by
 obtain ⟨p',hM⟩:=hM
 refine ⟨by rw [ht], ?_,hT⟩
 unfold zfp
 rw [hb]
 exact ⟨p',A,c,by rw [hn];exact hM⟩
set_option maxRecDepth 100000 in
theorem ans_pick (hM:zdO w W mp n p A c hs s now) (hI:PlI hs n now s) (hn:n≤100) (k:Nat) (hk:k≤9999999) {Al:Option Addr} {cl c2:Nat} {ad:Addr} (hN:w.cell? ad=some (.int .i64 (k:Int))):
 Calls Tryz.prog 9 #[.pointer (some ⟨mp,0,none⟩),.agg #[.string ⟨#[112,105,99,107]⟩,.slice Al 0 cl,.slice (some ad) 1 c2]] W (zat w mp (n+1) (zaJ .pick ⟨[],[k]⟩ hs s now) W):=by
 obtain ⟨W1,hW1⟩:∃W1,W1=W.alloc (.cells #[.string ⟨#[112,105,99,107]⟩,.slice Al 0 cl,.slice (some ad) 1 c2] 31):=⟨_,rfl⟩
 have hb1:Below W.heap.size W W1:=by rw [hW1];exact (Below.refl _ _).alloc (Nat.le_refl _) _
 have hk1:Blk W1 W.heap.size 31 #[.string ⟨#[112,105,99,107]⟩,.slice Al 0 cl,.slice (some ad) 1 c2]:=by rw [hW1];exact Blk.new _ _ _
 have hM1:=hM.below hb1
 have hwm:IntKind.u64.wrap (k:Int)=(k:Int):=by rw [IntKind.wrap_u64];omega
 have hU:U64 k:=by unfold U64;omega
 have HSq:Hid (∀w' (st:BS) (p':RBp) m,p'.mb=p.mb→zdO w w' mp m p' A c hs st now→Blk w' W.heap.size 31 #[.string ⟨#[112,105,99,107]⟩,.slice Al 0 cl,.slice (some ad) 1 c2]→w'.cell? ⟨mp,0,none⟩=some (.pointer (some ⟨p.mb,0,none⟩))∧w'.cell? ⟨mp,2,none⟩=some (.int .i64 (now:Int))∧w'.cell? ⟨W.heap.size,2,none⟩=some (.slice (some ad) 1 c2)∧w'.cell? ad=some (.int .i64 (k:Int))):=Lib.hid fun w' st p' m e h hB=>
  ⟨by rw [←e];exact h.blk.cell 0,h.blk.cell 2,hB.cell 2,(h.b.cell (World.block_lt_of_cell? _ _ hN)).trans hN⟩
 have hM1d:=hM1.below (zad (Below.refl W1.heap.size W1))
 have hS0:=HSq.out W1.drew s p n rfl hM1d hk1
 have e1:W1.cell? ⟨mp,0,none⟩=some (.pointer (some ⟨p.mb,0,none⟩)):=hM1.blk.cell 0
 rw [hW1] at e1
 have HC:=Lib.hid (refB_pick (W:=W1.drew) k now hM1d.r hM1d.b.size hI.ok hI.st hI.rise hI.last (by have:=hI.nw;omega) (by omega) hU)
 unfold zcz at HC
 have hcode:(zbz (cS hs) s k now).1.2.2≤9:=by
  rcases pickS_code (cS hs) s k now with h|h
  ·omega
  ·have:=h.2.1;omega
 have hxs:=hI.pickHost k
 have hact:zaJ .pick ⟨[],[k]⟩ hs s now=(((zbz (cS hs) s k now).1.2.2,bt ((zbz (cS hs) s k now).1.1.data.toList++if (zbz (cS hs) s k now).1.2.1=true then [32,107,101,112,116] else [32,110,101,119])),⟨some (hs,(zbz (cS hs) s k now).2),now⟩):=rfl
 rw [hact]
 obtain ⟨⟨⟨x,kept,code⟩,s'⟩,hr⟩:∃r,r=zbz (cS hs) s k now:=⟨_,rfl⟩
 rw [←hr] at HC hcode hxs
 rw [←hr]
 dsimp only at HC hcode hxs ⊢
 have HF:Hid (∀w2 w3 (z:ByteArray),zaZ w.heap.size p (cS hs) n s' W1.drew w2→Below w2.heap.size w2 w3→z=(if kept=true then ⟨#[32,107,101,112,116]⟩ else ⟨#[32,110,101,119]⟩:ByteArray)→zat w mp (n+1) ((code,bt (x.data.toList++if kept=true then [32,107,101,112,116] else [32,110,101,119])),⟨some (hs,s'),now⟩) W (.returned (.string (orT code (x++z)))) w3):=Lib.hid fun w2 w3 z hR hb3 hz=>by
  obtain ⟨⟨p',_,h2⟩,hT⟩:=hM1d.act hR
  refine ans_of (s:=s') (now:=now) (A:=A) (c:=c) ?_ rfl rfl ⟨p',(h2.below hb3).more (Nat.le_succ n)⟩ ((hT.zd6 hb3).from_ (zaa hb1 (zad (Below.refl _ _))))
  rw [←orT_tell,zdJ,hz]
  cases kept<;>rfl
 have HS2:Hid (∀w2,zaZ w.heap.size p (cS hs) n s' W1.drew w2→w2.cell? ⟨mp,0,none⟩=some (.pointer (some ⟨p.mb,0,none⟩))∧w2.cell? ⟨mp,2,none⟩=some (.int .i64 (now:Int))∧w2.cell? ⟨W.heap.size,2,none⟩=some (.slice (some ad) 1 c2)∧w2.cell? ad=some (.int .i64 (k:Int))):=Lib.hid fun w2 hR=>by
  obtain ⟨⟨p',e,h2⟩,_⟩:=hM1d.act hR
  exact HSq.out w2 s' p' n e.1 h2 (zaZ.line hM1d.r hR hk1)
 have HOr:=Lib.hid (fun (y:ByteArray) w2=>zdC code y hcode w2)
 clear hM hI hN hM1 hM1d HSq hr hact hb1 hk1
 generalize zat w mp (n+1) ((code,bt (x.data.toList++if kept=true then [32,107,101,112,116] else [32,110,101,119])),⟨some (hs,s'),now⟩) W=PQ at*
 go_enter Tryz.func9,Tryz.ntmps9
 go_wp2_with fail
 rw [←hW1]
 clear hW1 e1
 go_region_held3 (fun w'=>w'.cell? ⟨mp,0,none⟩=some (.pointer (some ⟨p.mb,0,none⟩))∧w'.cell? ⟨mp,2,none⟩=some (.int .i64 (now:Int))∧w'.cell? ⟨W.heap.size,2,none⟩=some (.slice (some ad) 1 c2)∧w'.cell? ad=some (.int .i64 (k:Int))) (first|exact hS2|exact hS0|go_keep) (first
  |(go_at_call 21
    refine HC.out.mono ?_
    rintro e w2 ⟨rfl,hR2⟩
    have hS2:=HS2.out w2 hR2))
 all_goals
  have HFt:Hid (∀w3,Below w2.heap.size w2 w3→kept=true→PQ (.returned (.string (orT code (x++⟨#[32,107,101,112,116]⟩)))) w3):=Lib.hid fun w3 hb hk=>HF.out w2 w3 _ hR2 hb (by rw [hk];rfl)
  have HFf:Hid (∀w3,Below w2.heap.size w2 w3→kept=false→PQ (.returned (.string (orT code (x++⟨#[32,110,101,119]⟩)))) w3):=Lib.hid fun w3 hb hk=>HF.out w2 w3 _ hR2 hb (by rw [hk];rfl)
  clear hS2 hS0 HC HS2 hR2 HF
  cases kept
  ·go_wp2_with fail
   refine (HOr.out _ w2).mono ?_
   rintro e w3 ⟨rfl,hb3⟩
   have HQ:=Lib.hid (HFf.out w3 hb3 (by trivial))
   clear hb3 HFf HFt HOr
   go_wp2
   exact HQ.out
  ·go_wp2_with fail
   refine (HOr.out _ w2).mono ?_
   rintro e w3 ⟨rfl,hb3⟩
   have HQ:=Lib.hid (HFt.out w3 hb3 (by trivial))
   clear hb3 HFf HFt HOr
   go_wp2
   exact HQ.out
set_option maxRecDepth 100000 in
theorem ans_look (hM:zdO w W mp n p A c hs s now) (hn:n≤100) (z:ByteArray) (k:Nat) {bd ad:Addr} {cl c2:Nat} (hZ:w.cell? bd=some (.string z)) (hN:w.cell? ad=some (.int .i64 (k:Int))):
 Calls Tryz.prog 9 #[.pointer (some ⟨mp,0,none⟩),.agg #[.string ⟨#[108,111,111,107]⟩,.slice (some bd) 1 cl,.slice (some ad) 1 c2]] W (zat w mp (n+1) (zaJ .look ⟨[z],[k]⟩ hs s now) W):=by
 obtain ⟨W1,hW1⟩:∃W1,W1=W.alloc (.cells #[.string ⟨#[108,111,111,107]⟩,.slice (some bd) 1 cl,.slice (some ad) 1 c2] 31):=⟨_,rfl⟩
 have hb1:Below W.heap.size W W1:=by rw [hW1];exact (Below.refl _ _).alloc (Nat.le_refl _) _
 have hk1:Blk W1 W.heap.size 31 #[.string ⟨#[108,111,111,107]⟩,.slice (some bd) 1 cl,.slice (some ad) 1 c2]:=by rw [hW1];exact Blk.new _ _ _
 have hM1:=hM.below hb1
 have HSq:Hid (∀w' (st:BS) (p':RBp) m,p'.mb=p.mb→zdO w w' mp m p' A c hs st now→Blk w' W.heap.size 31 #[.string ⟨#[108,111,111,107]⟩,.slice (some bd) 1 cl,.slice (some ad) 1 c2]→w'.cell? ⟨mp,0,none⟩=some (.pointer (some ⟨p.mb,0,none⟩))∧w'.cell? ⟨W.heap.size,1,none⟩=some (.slice (some bd) 1 cl)∧w'.cell? ⟨W.heap.size,2,none⟩=some (.slice (some ad) 1 c2)∧w'.cell? bd=some (.string z)∧w'.cell? ad=some (.int .i64 (k:Int))):=Lib.hid fun w' st p' m e h hB=>
  ⟨by rw [←e];exact h.blk.cell 0,hB.cell 1,hB.cell 2,(h.b.cell (World.block_lt_of_cell? _ _ hZ)).trans hZ,(h.b.cell (World.block_lt_of_cell? _ _ hN)).trans hN⟩
 have hM1d:=hM1.below (zad (Below.refl W1.heap.size W1))
 have hS0:=HSq.out W1.drew s p n rfl hM1d hk1
 have e1:W1.cell? ⟨mp,0,none⟩=some (.pointer (some ⟨p.mb,0,none⟩)):=hM1.blk.cell 0
 rw [hW1] at e1
 obtain ⟨b,hbk⟩:∃b,b=decide (k=1):=⟨_,rfl⟩
 have he:((k:Int)==1)=b:=by
  rw [hbk]
  by_cases h:k=1
  ·subst h;rfl
  ·rw [decide_eq_false h]
   simp
   omega
 have HC:=Lib.hid (refB_look (W:=W1.drew) z b hM1d.r hM1d.b.size (by omega) (show 1≤2 by decide) (show 1≤2 by decide))
 unfold RefLookB at HC
 have hact:zaJ .look ⟨[z],[k]⟩ hs s now=(((zcl (cS hs) s z b).1.2,if (zcl (cS hs) s z b).1.1=true then bt [116,117,114,110,101,100] else bt [115,97,109,101]),⟨some (hs,(zcl (cS hs) s z b).2),now⟩):=by rw [hbk];rfl
 have hcode:(zcl (cS hs) s z b).1.2≤9:=by unfold zcl zb5;dsimp only;split<;>omega
 rw [hact]
 obtain ⟨⟨⟨turned,code⟩,s'⟩,hr⟩:∃r,r=zcl (cS hs) s z b:=⟨_,rfl⟩
 rw [←hr] at HC hcode
 rw [←hr]
 dsimp only at HC hcode ⊢
 have HF:Hid (∀w2 w3 (y:ByteArray),zaZ w.heap.size p (cS hs) (n+1) s' W1.drew w2→Below w2.heap.size w2 w3→y=(if turned=true then bt [116,117,114,110,101,100] else bt [115,97,109,101])→zat w mp (n+1) ((code,if turned=true then bt [116,117,114,110,101,100] else bt [115,97,109,101]),⟨some (hs,s'),now⟩) W (.returned (.string (orT code y))) w3):=Lib.hid fun w2 w3 y hR hb3 hy=>by
  obtain ⟨⟨p',_,h2⟩,hT⟩:=hM1d.act hR
  refine ans_of (s:=s') (now:=now) (A:=A) (c:=c) ?_ rfl rfl ⟨p',h2.below hb3⟩ ((hT.zd6 hb3).from_ (zaa hb1 (zad (Below.refl _ _))))
  rw [←orT_tell,hy]
 have HS2:Hid (∀w2,zaZ w.heap.size p (cS hs) (n+1) s' W1.drew w2→w2.cell? ⟨mp,0,none⟩=some (.pointer (some ⟨p.mb,0,none⟩))∧w2.cell? ⟨W.heap.size,1,none⟩=some (.slice (some bd) 1 cl)∧w2.cell? ⟨W.heap.size,2,none⟩=some (.slice (some ad) 1 c2)∧w2.cell? bd=some (.string z)∧w2.cell? ad=some (.int .i64 (k:Int))):=Lib.hid fun w2 hR=>by
  obtain ⟨⟨p',e,h2⟩,_⟩:=hM1d.act hR
  exact HSq.out w2 s' p' (n+1) e.1 h2 (zaZ.line hM1d.r hR hk1)
 have HOr:=Lib.hid (fun (y:ByteArray) w2=>zdC code y hcode w2)
 clear hM hN hZ hM1 hM1d HSq hr hact hb1 hk1 hbk
 generalize zat w mp (n+1) ((code,if turned=true then bt [116,117,114,110,101,100] else bt [115,97,109,101]),⟨some (hs,s'),now⟩) W=PQ at*
 go_enter Tryz.func9,Tryz.ntmps9
 go_wp2_with fail
 rw [←hW1]
 clear hW1 e1
 go_region_held3 (fun w'=>w'.cell? ⟨mp,0,none⟩=some (.pointer (some ⟨p.mb,0,none⟩))∧w'.cell? ⟨W.heap.size,1,none⟩=some (.slice (some bd) 1 cl)∧w'.cell? ⟨W.heap.size,2,none⟩=some (.slice (some ad) 1 c2)∧w'.cell? bd=some (.string z)∧w'.cell? ad=some (.int .i64 (k:Int))) (first|exact hS2|exact hS0|go_keep) (first
  |(go_at_call 22
    refine HC.out.mono ?_
    rintro e w2 ⟨rfl,hR2⟩
    have hS2:=HS2.out w2 hR2))
 all_goals
  have HFt:Hid (∀w3,Below w2.heap.size w2 w3→turned=true→PQ (.returned (.string (orT code ⟨#[116,117,114,110,101,100]⟩))) w3):=Lib.hid fun w3 hb hk=>HF.out w2 w3 _ hR2 hb (by rw [hk];rfl)
  have HFf:Hid (∀w3,Below w2.heap.size w2 w3→turned=false→PQ (.returned (.string (orT code ⟨#[115,97,109,101]⟩))) w3):=Lib.hid fun w3 hb hk=>HF.out w2 w3 _ hR2 hb (by rw [hk];rfl)
  clear hS2 hS0 HC HS2 hR2 HF
  cases turned
  ·go_wp2_with fail
   refine (HOr.out _ w2).mono ?_
   rintro e w3 ⟨rfl,hb3⟩
   have HQ:=Lib.hid (HFf.out w3 hb3 (by trivial))
   clear hb3 HFf HFt HOr
   go_wp2
   exact HQ.out
  ·go_wp2_with fail
   refine (HOr.out _ w2).mono ?_
   rintro e w3 ⟨rfl,hb3⟩
   have HQ:=Lib.hid (HFt.out w3 hb3 (by trivial))
   clear hb3 HFf HFt HOr
   go_wp2
   exact HQ.out
set_option maxRecDepth 100000 in
theorem ans_drain (hM:zdO w W mp n p A c hs s now) (hI:PlI hs n now s) (hn:n≤100) (z:ByteArray) (k:Nat) {bd ad:Addr} {cl c2:Nat} (hZ:w.cell? bd=some (.string z)) (hN:w.cell? ad=some (.int .i64 (k:Int))):
 Calls Tryz.prog 9 #[.pointer (some ⟨mp,0,none⟩),.agg #[.string ⟨#[100,114,97,105,110]⟩,.slice (some bd) 1 cl,.slice (some ad) 1 c2]] W (zat w mp (n+1) (zaJ .drain ⟨[z],[k]⟩ hs s now) W):=by
 obtain ⟨W1,hW1⟩:∃W1,W1=W.alloc (.cells #[.string ⟨#[100,114,97,105,110]⟩,.slice (some bd) 1 cl,.slice (some ad) 1 c2] 31):=⟨_,rfl⟩
 have hb1:Below W.heap.size W W1:=by rw [hW1];exact (Below.refl _ _).alloc (Nat.le_refl _) _
 have hk1:Blk W1 W.heap.size 31 #[.string ⟨#[100,114,97,105,110]⟩,.slice (some bd) 1 cl,.slice (some ad) 1 c2]:=by rw [hW1];exact Blk.new _ _ _
 have hM1:=hM.below hb1
 have HSq:Hid (∀w' (st:BS) (p':RBp) m,p'.mb=p.mb→zdO w w' mp m p' A c hs st now→Blk w' W.heap.size 31 #[.string ⟨#[100,114,97,105,110]⟩,.slice (some bd) 1 cl,.slice (some ad) 1 c2]→w'.cell? ⟨mp,0,none⟩=some (.pointer (some ⟨p.mb,0,none⟩))∧w'.cell? ⟨W.heap.size,1,none⟩=some (.slice (some bd) 1 cl)∧w'.cell? ⟨W.heap.size,2,none⟩=some (.slice (some ad) 1 c2)∧w'.cell? bd=some (.string z)∧w'.cell? ad=some (.int .i64 (k:Int))):=Lib.hid fun w' st p' m e h hB=>
  ⟨by rw [←e];exact h.blk.cell 0,hB.cell 1,hB.cell 2,(h.b.cell (World.block_lt_of_cell? _ _ hZ)).trans hZ,(h.b.cell (World.block_lt_of_cell? _ _ hN)).trans hN⟩
 have hM1d:=hM1.below (zad (Below.refl W1.heap.size W1))
 have hS0:=HSq.out W1.drew s p n rfl hM1d hk1
 have e1:W1.cell? ⟨mp,0,none⟩=some (.pointer (some ⟨p.mb,0,none⟩)):=hM1.blk.cell 0
 rw [hW1] at e1
 obtain ⟨b,hbk⟩:∃b,b=decide (k=1):=⟨_,rfl⟩
 have he:((k:Int)==1)=b:=by
  rw [hbk]
  by_cases h:k=1
  ·subst h;rfl
  ·rw [decide_eq_false h]
   simp
   omega
 obtain ⟨⟨code,s'⟩,hr⟩:∃r,r=drainR (cS hs) s z b:=⟨_,rfl⟩
 have HC:=Lib.hid (refB_drainAny (W:=W1.drew) (c:=cS hs) z b hM1d.r hM1d.b.size (hI.st) (by omega))
 unfold RefDrainC at HC
 have hact:zaJ .drain ⟨[z],[k]⟩ hs s now=(((drainR (cS hs) s z b).1,sOk),⟨some (hs,(drainR (cS hs) s z b).2),now⟩):=by
  rw [hbk]
  unfold zaJ drainR
  dsimp only [List.getD_cons_zero]
  show (if has hs z=true then _ else _)=_
  split
  ·rename_i h
   rw [if_pos (show has (cS hs).hosts z=true from h)]
   rfl
  ·rename_i h
   rw [if_neg (show¬has (cS hs).hosts z=true from h)]
 have hcode:(drainR (cS hs) s z b).1≤9:=by unfold drainR;split<;>simp
 rw [hact]
 rw [←hr] at HC hcode
 rw [←hr]
 dsimp only at HC hcode ⊢
 have HF:Hid (∀w2 w3,zaZ w.heap.size p (cS hs) (n+1) s' W1.drew w2→Below w2.heap.size w2 w3→zat w mp (n+1) ((code,sOk),⟨some (hs,s'),now⟩) W (.returned (.string (orT code ⟨#[111,107]⟩))) w3):=Lib.hid fun w2 w3 hR hb3=>by
  obtain ⟨⟨p',_,h2⟩,hT⟩:=hM1d.act hR
  refine ans_of (s:=s') (now:=now) (A:=A) (c:=c) ?_ rfl rfl ⟨p',h2.below hb3⟩ ((hT.zd6 hb3).from_ (zaa hb1 (zad (Below.refl _ _))))
  rw [←orT_tell]
  rfl
 have HS2:Hid (∀w2 w3,zaZ w.heap.size p (cS hs) (n+1) s' W1.drew w2→Below w2.heap.size w2 w3→w3.cell? ⟨mp,0,none⟩=some (.pointer (some ⟨p.mb,0,none⟩))∧w3.cell? ⟨W.heap.size,1,none⟩=some (.slice (some bd) 1 cl)∧w3.cell? ⟨W.heap.size,2,none⟩=some (.slice (some ad) 1 c2)∧w3.cell? bd=some (.string z)∧w3.cell? ad=some (.int .i64 (k:Int))):=Lib.hid fun w2 w3 hR hb3=>by
  obtain ⟨⟨p',e,h2⟩,_⟩:=hM1d.act hR
  have hL:=zaZ.line hM1d.r hR hk1
  exact HSq.out w3 s' p' (n+1) e.1 (h2.below hb3) (hL.below hb3 hL.lt)
 have HOr:=Lib.hid (fun (y:ByteArray) w2=>zdC code y hcode w2)
 clear hM hI hN hZ hM1 hM1d HSq hr hact hb1 hk1 hbk
 generalize zat w mp (n+1) ((code,sOk),⟨some (hs,s'),now⟩) W=PQ at*
 go_enter Tryz.func9,Tryz.ntmps9
 go_wp2_with fail
 rw [←hW1]
 clear hW1 e1
 go_region_held3 (fun w'=>w'.cell? ⟨mp,0,none⟩=some (.pointer (some ⟨p.mb,0,none⟩))∧w'.cell? ⟨W.heap.size,1,none⟩=some (.slice (some bd) 1 cl)∧w'.cell? ⟨W.heap.size,2,none⟩=some (.slice (some ad) 1 c2)∧w'.cell? bd=some (.string z)∧w'.cell? ad=some (.int .i64 (k:Int))) (first|exact hS3|exact hS2|exact hS0|go_keep) (first
  |(go_at_call 23
    refine HC.out.mono ?_
    rintro e w2 ⟨rfl,hR2⟩
    have hS2:=HS2.out w2 w2 hR2 (Below.refl _ _))
  |(go_at_call 20
    refine (HOr.out _ w2).mono ?_
    rintro e w3 ⟨rfl,hb3⟩
    have hS3:=HS2.out w2 w3 hR2 hb3))
 all_goals
  have HQ:=Lib.hid (HF.out w2 w3 hR2 hb3)
  clear hS3 hS2 hS0 HC HS2 hR2 HF hb3 HOr
  go_wp2
  exact HQ.out
set_option maxRecDepth 100000 in
theorem ans_tick (hM:zdO w W mp n p A c hs s now) (hI:PlI hs n now s) (hn:n≤100) (k:Nat) (hk:k≤9999999) {Al:Option Addr} {ad:Addr} {cl c2:Nat} (hN:w.cell? ad=some (.int .i64 (k:Int))):
 Calls Tryz.prog 9 #[.pointer (some ⟨mp,0,none⟩),.agg #[.string ⟨#[116,105,99,107]⟩,.slice Al 0 cl,.slice (some ad) 1 c2]] W (zat w mp (n+1) (zaJ .tick ⟨[],[k]⟩ hs s now) W):=by
 obtain ⟨W1,hW1⟩:∃W1,W1=W.alloc (.cells #[.string ⟨#[116,105,99,107]⟩,.slice Al 0 cl,.slice (some ad) 1 c2] 31):=⟨_,rfl⟩
 have hb1:Below W.heap.size W W1:=by rw [hW1];exact (Below.refl _ _).alloc (Nat.le_refl _) _
 have hk1:Blk W1 W.heap.size 31 #[.string ⟨#[116,105,99,107]⟩,.slice Al 0 cl,.slice (some ad) 1 c2]:=by rw [hW1];exact Blk.new _ _ _
 have hM1:=hM.below hb1
 have HSq:Hid (∀w' (st:BS) (p':RBp) m,p'.mb=p.mb→zdO w w' mp m p' A c hs st now→Blk w' W.heap.size 31 #[.string ⟨#[116,105,99,107]⟩,.slice Al 0 cl,.slice (some ad) 1 c2]→w'.cell? ⟨mp,2,none⟩=some (.int .i64 (now:Int))∧w'.cell? ⟨W.heap.size,2,none⟩=some (.slice (some ad) 1 c2)∧w'.cell? ad=some (.int .i64 (k:Int))):=Lib.hid fun w' st p' m e h hB=>
  ⟨h.blk.cell 2,hB.cell 2,(h.b.cell (World.block_lt_of_cell? _ _ hN)).trans hN⟩
 have hM1d:=hM1.below (zad (Below.refl W1.heap.size W1))
 have hS0:=HSq.out W1.drew s p n rfl hM1d hk1
 have e1:W1.cell? ⟨mp,0,none⟩=some (.pointer (some ⟨p.mb,0,none⟩)):=hM1.blk.cell 0
 rw [hW1] at e1
 have hnw:=hI.nw
 have hsum:IntKind.i64.wrap ((now:Int)+(k:Int))=(now:Int)+(k:Int):=IntWalk.i64_in _ (by omega)
 obtain ⟨q0,q1,q2⟩:=hS0
 have z2:W1.drew.frozen? ⟨mp,2,none⟩=false:=hM1d.blk.frozen 2
 have HF:Hid (zat w mp (n+1) (zaJ .tick ⟨[],[k]⟩ hs s now) W (.returned (.string ⟨#[111,107]⟩)) (W1.setCell ⟨mp,2,none⟩ (.int .i64 ((now:Int)+(k:Int)))).drew):=Lib.hid (by
  rw [show (now:Int)+(k:Int)=((now+k:Nat):Int) by omega]
  obtain ⟨h2,hT⟩:=hM1.tick (now+k)
  refine ans_of (r:=zaJ .tick ⟨[],[k]⟩ hs s now) (s:=s) (now:=now+k) (A:=A) (c:=c) rfl rfl rfl ⟨p,(h2.below (zad (Below.refl _ _))).more (Nat.le_succ n)⟩ ((hT.zd6 (zad (Below.refl _ _))).from_ hb1))
 clear hM hI hN hM1 hM1d HSq hb1 hk1 hnw
 generalize zat w mp (n+1) (zaJ .tick ⟨[],[k]⟩ hs s now) W=PQ at*
 go_enter Tryz.func9,Tryz.ntmps9
 go_wp2_with fail
 rw [←hW1]
 clear hW1 e1
 go_region
 all_goals
  have HQ:=HF
  clear HF q0 q1 q2
  go_wp2
  exact HQ.out
set_option maxRecDepth 100000 in
theorem ans_up (hM:zdO w W mp n p A c hs s now) (hI:PlI hs n now s) {Al An:Option Addr} {cl c2:Nat}:
 Calls Tryz.prog 9 #[.pointer (some ⟨mp,0,none⟩),.agg #[.string ⟨#[117,112]⟩,.slice Al 0 cl,.slice An 0 c2]] W (zat w mp (n+1) (zaJ .up ⟨[],[]⟩ hs s now) W):=by
 obtain ⟨W1,hW1⟩:∃W1,W1=W.alloc (.cells #[.string ⟨#[117,112]⟩,.slice Al 0 cl,.slice An 0 c2] 31):=⟨_,rfl⟩
 have hb1:Below W.heap.size W W1:=by rw [hW1];exact (Below.refl _ _).alloc (Nat.le_refl _) _
 have hk1:Blk W1 W.heap.size 31 #[.string ⟨#[117,112]⟩,.slice Al 0 cl,.slice An 0 c2]:=by rw [hW1];exact Blk.new _ _ _
 have hM1:=hM.below hb1
 have HSq:Hid (∀w' (st:BS) (p':RBp) m,p'.mb=p.mb→zdO w w' mp m p' A c hs st now→Blk w' W.heap.size 31 #[.string ⟨#[117,112]⟩,.slice Al 0 cl,.slice An 0 c2]→w'.cell? ⟨mp,0,none⟩=some (.pointer (some ⟨p.mb,0,none⟩))):=Lib.hid fun w' st p' m e h hB=>
  by rw [←e];exact h.blk.cell 0
 have hM1d:=hM1.below (zad (Below.refl W1.heap.size W1))
 have hS0:=HSq.out W1.drew s p n rfl hM1d hk1
 have e1:W1.cell? ⟨mp,0,none⟩=some (.pointer (some ⟨p.mb,0,none⟩)):=hM1.blk.cell 0
 rw [hW1] at e1
 obtain ⟨rs,hh,hm⟩:=hM1.r.h
 obtain ⟨u0,_,_,_,_⟩:=hM1.r.cells
 rw [hW1] at u0
 have hsub:=hI.ups
 have HU:Hid (Calls Tryz.prog 25 #[.pointer (some ⟨p.mh,0,none⟩)] W1 (zaL (ups s.st) W1)):=Lib.hid (by
  have:=refUps W1 hh (by have:=hm.le;have:=hm.len;omega)
  rw [←hm.ups] at this
  exact this)
 unfold zaL at HU
 have HJ:Hid (∀w2 A' c',w2.ownsRow W1.heap.size 9 1 (.slice A' (ups s.st).length c') (ups s.st).length (zak (ups s.st))→Calls Tryz.prog 24 #[.slice A' (ups s.st).length c',.string ⟨#[32]⟩] w2 fun e w'=>e= .returned (.string (zbA (ups s.st) [32]))∧w2=w'):=Lib.hid fun w2 A' c' ho=>zdY A' c' (ups s.st) ⟨#[32]⟩ w2 (Reads.zbv ho) (by have:=hsub.2;omega) hsub.1 (by decide)
 have HF:Hid (∀w2,Below W1.heap.size W1 w2→zat w mp (n+1) (zaJ .up ⟨[],[]⟩ hs s now) W (.returned (.string (zbA (ups s.st) [32]))) w2):=Lib.hid fun w2 hb2=>
  ans_of (r:=zaJ .up ⟨[],[]⟩ hs s now) (s:=s) (now:=now) (A:=A) (c:=c) rfl rfl rfl ⟨p,(hM1.below hb2).more (Nat.le_succ n)⟩ (zfe.of_below (zaa hb1 hb2))
 clear hM hI hM1 hM1d HSq hb1 hk1 hS0 hh hm hsub
 generalize zat w mp (n+1) (zaJ .up ⟨[],[]⟩ hs s now) W=PQ at*
 generalize ups s.st=U at*
 go_enter Tryz.func9,Tryz.ntmps9
 go_wp2_with fail
 rw [←hW1]
 clear hW1 e1
 clear u0
 refine HU.out.mono ?_
 rintro e w2 ⟨A',c',rfl,ho,hb2⟩
 have HJ2:=Lib.hid (HJ.out w2 A' c' ho)
 have HQ:=Lib.hid (HF.out w2 hb2)
 clear ho hb2 HJ HF HU
 go_wp2_with fail
 refine HJ2.out.mono ?_
 rintro e w3 ⟨rfl,rfl⟩
 go_wp2
 exact HQ.out
theorem rep_on (s:ByteArray) (i:Nat) (h:i<s.size):(s.data.toList.take (i+1)).flatMap (fun x=>if x=10 then [59,32] else [x])=(s.data.toList.take i).flatMap (fun x=>if x=10 then [59,32] else [x])++if s[i]=10 then [59,32] else [s[i]]:=by
 have hl:s.data.toList.length=s.size:=by simp
 rw [List.take_succ_eq_append_getElem (by omega),List.flatMap_append]
 simp only [List.flatMap_cons,List.flatMap_nil,List.append_nil]
 rfl
theorem rep_len (l:List UInt8):(l.flatMap (fun x=>if x=10 then ([59,32]:List UInt8) else [x])).length≤2*l.length:=by
 induction l with
 |nil=>simp
 |cons x r ih=>
  rw [List.flatMap_cons,List.length_append,List.length_cons]
  have:(if x=10 then ([59,32]:List UInt8) else [x]).length≤2:=by split<;>simp
  omega
theorem ext_one (s:ByteArray) (i:Nat) (h:i<s.size):s.extract i (i+1)=bt [s[i]]:=by
 have hl:s.data.toList.length=s.size:=by simp
 apply ByteArray.ext
 rw [ByteArray.data_extract]
 apply Array.ext'
 rw [Array.toList_extract,List.extract_eq_take_drop,show i+1-i=1 by omega,List.drop_eq_getElem_cons (by omega)]
 rfl
set_option maxRecDepth 100000 in
theorem ans_exprt (hM:zdO w W mp n p A c hs s now) (hI:PlI hs n now s) (hn:n≤100) (hl:s.fs.2.length≤200) {Al An:Option Addr} {cl c2:Nat}:
 Calls Tryz.prog 9 #[.pointer (some ⟨mp,0,none⟩),.agg #[.string ⟨#[101,120,112,111,114,116]⟩,.slice Al 0 cl,.slice An 0 c2]] W (zat w mp (n+1) (zaJ .exprt ⟨[],[]⟩ hs s now) W):=by
 obtain ⟨W1,hW1⟩:∃W1,W1=W.alloc (.cells #[.string ⟨#[101,120,112,111,114,116]⟩,.slice Al 0 cl,.slice An 0 c2] 31):=⟨_,rfl⟩
 have hb1:Below W.heap.size W W1:=by rw [hW1];exact (Below.refl _ _).alloc (Nat.le_refl _) _
 have hk1:Blk W1 W.heap.size 31 #[.string ⟨#[101,120,112,111,114,116]⟩,.slice Al 0 cl,.slice An 0 c2]:=by rw [hW1];exact Blk.new _ _ _
 have hM1:=hM.below hb1
 have HSq:Hid (∀w' (st:BS) (p':RBp) m,p'.mb=p.mb→zdO w w' mp m p' A c hs st now→Blk w' W.heap.size 31 #[.string ⟨#[101,120,112,111,114,116]⟩,.slice Al 0 cl,.slice An 0 c2]→w'.cell? ⟨mp,0,none⟩=some (.pointer (some ⟨p.mb,0,none⟩))):=Lib.hid fun w' st p' m e h hB=>
  by rw [←e];exact h.blk.cell 0
 have hM1d:=hM1.below (zad (Below.refl W1.heap.size W1))
 have hS0:=HSq.out W1.drew s p n rfl hM1d hk1
 have e1:W1.cell? ⟨mp,0,none⟩=some (.pointer (some ⟨p.mb,0,none⟩)):=hM1.blk.cell 0
 rw [hW1] at e1
 have hck:=hI.check (by omega) hl
 have hu:∀y∈s.fs.2,U64 y.key:=fun y hy=>(hI.fl y hy).2.2.2
 have HC:=Lib.hid (refB_export (W:=W1) hM1.r (by have:=hI.ep;omega) hck hu)
 unfold RefExpB at HC
 obtain ⟨tx,htx⟩:∃tx:ByteArray,tx=⟨(textOf ((s.epoch:Int)+1) s.fs.2).toArray⟩:=⟨_,rfl⟩
 rw [←htx] at HC
 have hsz:tx.size≤9200:=by
  have:=text_small hck hu
  rw [htx]
  simpa [ByteArray.size] using this
 have htd:tx.data.toList=textOf ((s.epoch:Int)+1) s.fs.2:=by rw [htx]
 have hpos:1≤tx.size:=by
  rw [htx]
  unfold textOf
  simp [ByteArray.size]
  omega
 have HEnd:Hid (∀q:ByteArray,q=bt ((tx.data.toList.take (tx.size-1)).flatMap fun x=>if x=10 then [59,32] else [x])→q=zd8 s):=Lib.hid fun q hq=>by
  rw [hq,exportT_eq]
  have h1:tx.size=(textOf ((s.epoch:Int)+1) s.fs.2).length:=by rw [htx];simp [ByteArray.size]
  rw [htd,h1]
  unfold textOf
  rw [←List.append_assoc,List.length_append,List.length_singleton,Nat.add_sub_cancel,List.take_left]
 have HF:Hid (∀w2 (q:ByteArray),zaZ w.heap.size p (cS hs) n { s with epoch:=s.epoch+1 } W1 w2→q=zd8 s→zat w mp (n+1) (zaJ .exprt ⟨[],[]⟩ hs s now) W (.returned (.string q)) w2):=Lib.hid fun w2 q hR hq=>by
  obtain ⟨⟨p',_,h2⟩,hT⟩:=hM1.act hR
  exact ans_of (r:=zaJ .exprt ⟨[],[]⟩ hs s now) (s:={ s with epoch:=s.epoch+1 }) (now:=now) (A:=A) (c:=c) (by rw [hq];rfl) rfl rfl ⟨p',h2.more (Nat.le_succ n)⟩ (hT.from_ hb1)
 clear hM hI hM1 hM1d HSq hb1 hk1 hS0 hck hu htx htd hl
 generalize zat w mp (n+1) (zaJ .exprt ⟨[],[]⟩ hs s now) W=PQ at*
 generalize zd8 s=E at*
 go_enter Tryz.func9,Tryz.ntmps9
 go_wp2_with fail
 rw [←hW1]
 clear hW1 e1
 refine HC.out.mono ?_
 rintro e w2 ⟨rfl,hR2⟩
 have HQ:=Lib.hid (fun q=>HF.out w2 q hR2)
 clear hR2 HF HC
 go_wp2_with fail
 go_loop [17,18] (fun qv iv=>∃(i:Nat) (q:ByteArray),qv= .string q∧iv= .int .i64 (i:Int)∧i+1≤tx.size∧Hid (q=bt ((tx.data.toList.take i).flatMap fun x=>if x=10 then [59,32] else [x]))) (fun _ iv=>tx.size- (intOf iv).toNat)
 case atStart=>exact ⟨0,_,rfl,rfl,hpos,Lib.hid rfl⟩
 case round=>
  obtain ⟨i,q,rfl,rfl,hi,hq⟩:=hrel
  have hqs:q.size≤20000:=by
   rw [hq.out,zf7]
   have h1:=rep_len (tx.data.toList.take i)
   rw [List.length_take] at h1
   omega
  by_cases hlt:i+1<tx.size
  ·have hlt2:(i:Int)+1<(tx.size:Int):=by omega
   have hlt3:i<tx.size:=by omega
   have hnlt:=tx[i].toNat_lt
   have hro:=rep_on tx i hlt3
   by_cases hx:tx[i]=10
   ·have hxn:tx[i].toNat=10:=by rw [hx];rfl
    have HN:Hid (q++⟨#[59,32]⟩=bt ((tx.data.toList.take (i+1)).flatMap fun x=>if x=10 then [59,32] else [x])):=Lib.hid (by rw [hro,if_pos hx,hq.out,zdJ];simp [bt])
    clear hro hx hq HEnd HQ
    go_wp2
    go_round
    case rel=>exact ⟨i+1,_,rfl,by go_num,by omega,HN⟩
    case measure=>simp [intOf];omega
   ·have hxn:¬tx[i].toNat=10:=fun e=>hx (UInt8.toNat_inj.1 (by rw [e];rfl))
    have HN:Hid (q++tx.extract i (i+1)=bt ((tx.data.toList.take (i+1)).flatMap fun x=>if x=10 then [59,32] else [x])):=Lib.hid (by rw [hro,if_neg hx,hq.out,ext_one tx i hlt3,zdJ];simp [bt])
    clear hro hx hq HEnd HQ
    go_wp2
    go_round
    case rel=>exact ⟨i+1,_,rfl,by go_num,by omega,HN⟩
    case measure=>simp [intOf];omega
  ·have hge:¬((i:Int)+1<(tx.size:Int)):=by omega
   have HQ2:=Lib.hid (HQ.out q (HEnd.out q (by rw [hq.out,show tx.size-1=i by omega])))
   clear HEnd HQ hq
   go_wp2
   exact HQ2.out
end
section
variable {w W W':World} {mp n c:Nat} {s:PlS}
theorem zfp.cells (h:zfp w W mp n s):∃v0 v1 v2,Blk W mp 28 #[v0,v1,v2]∧w.heap.size≤mp∧Below w.heap.size w W∧((s.b=none∧v0= .pointer none)∨(s.b≠none∧∃g,v0= .pointer (some ⟨g,0,none⟩))):=by
 unfold zfp at h
 split at h
 ·rename_i e
  exact ⟨_,_,_,h.1,h.2.2.1,h.2.2.2,.inl ⟨e,rfl⟩⟩
 ·rename_i e
  obtain ⟨p,A,cp,h⟩:=h
  exact ⟨_,_,_,h.blk,h.lo,h.b,.inr ⟨by rw [e];simp,_,rfl⟩⟩
theorem zfp.below (h:zfp w W mp n s) (hb:Below W.heap.size W W'):zfp w W' mp n s:=by
 unfold zfp at h ⊢
 split
 ·rename_i e
  rw [e] at h
  exact ⟨h.1.below hb h.1.lt,h.2.1,h.2.2.1,zaa h.2.2.2 hb⟩
 ·rename_i e
  rw [e] at h
  obtain ⟨p,A,cp,h⟩:=h
  exact ⟨p,A,cp,h.below hb⟩
theorem zfp.more {n':Nat} (h:zfp w W mp n s) (hn:n≤n'):zfp w W mp n' s:=by
 unfold zfp at h ⊢
 split
 ·rename_i e
  rw [e] at h
  exact h
 ·rename_i e
  rw [e] at h
  obtain ⟨p,A,cp,h⟩:=h
  exact ⟨p,A,cp,h.more hn⟩
theorem ans_keep {r:Nat×ByteArray} {t:ByteArray} (ht:t=zbX r) (hM:zfp w W mp n s) (hb:Below W.heap.size W W'):zat w mp (n+1) (r,s) W (.returned (.string t)) W':=
 ⟨by rw [ht],(hM.below hb).more (Nat.le_succ n),zfe.of_below hb⟩
set_option maxRecDepth 100000 in
theorem ans_none (hM:zfp w W mp n s) (hs:s.b=none) {wd:ByteArray} (n1:wd≠zav) (n2:wd≠zaP) (v1 v2:Value):
 Calls Tryz.prog 9 #[.pointer (some ⟨mp,0,none⟩),.agg #[.string wd,v1,v2]] W (zat w mp (n+1) ((5,⟨#[]⟩),s) W):=by
 obtain ⟨x0,x1,x2,hB,hlo,hbw,hx⟩:=hM.cells
 obtain ⟨W1,hW1⟩:∃W1,W1=W.alloc (.cells #[.string wd,v1,v2] 31):=⟨_,rfl⟩
 have hb1:Below W.heap.size W W1:=by rw [hW1];exact (Below.refl _ _).alloc (Nat.le_refl _) _
 have e1:W1.cell? ⟨mp,0,none⟩=some (.pointer none):=by
  rcases hx with ⟨_,e⟩|⟨e,_⟩
  ·rw [←e]
   exact (hB.below hb1 hB.lt).cell 0
  ·exact absurd hs e
 have HT:=Lib.hid (zci 4 (by omega) W1)
 have HF:Hid (∀w2,Below W1.heap.size W1 w2→zat w mp (n+1) ((5,⟨#[]⟩),s) W (.returned (.string (ze8 5))) w2):=Lib.hid fun w2 hb2=>ans_keep rfl hM (zaa hb1 hb2)
 have l1:=zao n1
 have l2:=zao n2
 rw [hW1] at e1
 clear hM hB hx hb1 n1 n2
 generalize zat w mp (n+1) ((5,⟨#[]⟩),s) W=PQ at*
 generalize ze8 5=t5 at*
 go_enter Tryz.func9,Tryz.ntmps9
 go_wp2_with fail
 rw [←hW1]
 clear hW1 e1
 refine HT.out.mono ?_
 rintro e w2 ⟨rfl,hb2⟩
 have HQ:=Lib.hid (HF.out w2 hb2)
 clear hb2 HF HT
 go_wp2
 exact HQ.out
set_option maxRecDepth 100000 in
theorem ans_jump (hM:zfp w W mp n s) (k m:Nat) (hk:k≤9999999) (hm:m≤9999999) {Al:Option Addr} {ad:Addr} {cl c2:Nat} (hN:w.cell? ad=some (.int .i64 (k:Int))) (hN2:w.cell? ⟨ad.block,ad.off+1,none⟩=some (.int .i64 (m:Int))):
 Calls Tryz.prog 9 #[.pointer (some ⟨mp,0,none⟩),.agg #[.string ⟨#[106,117,109,112]⟩,.slice Al 0 cl,.slice (some ad) 2 c2]] W (zat w mp (n+1) (zdv ⟨[],[k,m]⟩,s) W):=by
 obtain ⟨x0,x1,x2,hB,hlo,hbw,hx⟩:=hM.cells
 obtain ⟨W1,hW1⟩:∃W1,W1=W.alloc (.cells #[.string ⟨#[106,117,109,112]⟩,.slice Al 0 cl,.slice (some ad) 2 c2] 31):=⟨_,rfl⟩
 have hb1:Below W.heap.size W W1:=by rw [hW1];exact (Below.refl _ _).alloc (Nat.le_refl _) _
 have hk1:Blk W1 W.heap.size 31 #[.string ⟨#[106,117,109,112]⟩,.slice Al 0 cl,.slice (some ad) 2 c2]:=by rw [hW1];exact Blk.new _ _ _
 have hwm:IntKind.u64.wrap (k:Int)=(k:Int):=by rw [IntKind.wrap_u64];omega
 have hU:U64 k:=by unfold U64;omega
 have HSq:Hid (∀w',Below W1.heap.size W1 w'→w'.cell? ⟨W.heap.size,2,none⟩=some (.slice (some ad) 2 c2)∧w'.cell? ad=some (.int .i64 (k:Int))∧w'.cell? ⟨ad.block,ad.off+1,none⟩=some (.int .i64 (m:Int))):=Lib.hid fun w' hb=>
  ⟨(hk1.below hb hk1.lt).cell 2,((zaa hbw (zaa hb1 hb)).cell (World.block_lt_of_cell? _ _ hN)).trans hN,((zaa hbw (zaa hb1 hb)).cell (World.block_lt_of_cell? _ _ hN2)).trans hN2⟩
 have hS0:=HSq.out W1.drew (zad (Below.refl _ _))
 have HC:=Lib.hid (bucketOf_any k m W1.drew hU)
 unfold BuckR at HC
 have hbb:buckB k m≤9999999:=by
  unfold buckB
  split
  ·rename_i h
   have:=Jp.B_lt (key:=k) (n:=m) (by omega)
   omega
  ·omega
 have hcc:buckC m≤9:=by unfold buckC;split<;>omega
 have HD:=Lib.hid (fun w2=>zb4 (buckB k m) (by omega) w2)
 have HOr:=Lib.hid (fun (y:ByteArray) w2=>zdC (buckC m) y hcc w2)
 have HF:Hid (∀w2,Below W1.heap.size W1 w2→zat w mp (n+1) (zdv ⟨[],[k,m]⟩,s) W (.returned (.string (orT (buckC m) ⟨(Lib.itoa (buckB k m:Int)).toArray⟩))) w2):=Lib.hid fun w2 hb2=>by
  refine ans_keep ?_ hM (zaa hb1 hb2)
  rw [Lib.itoa_nonneg]
  exact buck_tell k m
 clear hM hB hx hb1 hk1 hN hN2 hbw hU hcc
 generalize zat w mp (n+1) (zdv ⟨[],[k,m]⟩,s) W=PQ at*
 generalize buckB k m=bb at*
 generalize buckC m=cc at*
 have hds:=itoa_small hbb
 generalize (⟨(Lib.itoa (bb:Int)).toArray⟩:ByteArray)=dg at*
 go_enter Tryz.func9,Tryz.ntmps9
 go_wp2_with fail
 rw [←hW1]
 clear hW1
 go_region_held3 (fun w'=>w'.cell? ⟨W.heap.size,2,none⟩=some (.slice (some ad) 2 c2)∧w'.cell? ad=some (.int .i64 (k:Int))∧w'.cell? ⟨ad.block,ad.off+1,none⟩=some (.int .i64 (m:Int))) (first|exact hS2|exact hS0|go_keep) (first
  |(go_at_call 19
    refine HC.out.mono ?_
    rintro e w2 ⟨rfl,hb2⟩
    have hS2:=HSq.out w2 (zab hb2)))
 all_goals
  have HB2:=Lib.hid (zab hb2)
  clear hS2 hS0 HC HSq hb2
  go_wp2_with fail
  refine (HD.out w2).mono ?_
  rintro e w3 ⟨rfl,hb3⟩
  have HB3:=Lib.hid (zaa HB2.out hb3)
  clear hb3 HB2 HD
  go_wp2_with fail
  refine (HOr.out _ w3).mono ?_
  rintro e w4 ⟨rfl,hb4⟩
  have HQ:=Lib.hid (HF.out w4 (zaa HB3.out hb4))
  clear hb4 HB3 HOr HF
  go_wp2
  exact HQ.out
def setM (w4:World) (mp mb:Nat) (v:Value):World:=((w4.setCell ⟨mp,0,none⟩ (.pointer (some ⟨mb,0,none⟩))).setCell ⟨mp,1,none⟩ v).setCell ⟨mp,2,none⟩ (.int .i64 0)
theorem setM_model {w4:World} {B:Nat} {p:RBp} {A:Option Addr} {H:List ByteArray} {v0 v1 v2:Value} (hT:zcr w A c H) (hr:zcE w4 B p (cS H) 0 (newS (cS H))) (hB:Blk w4 mp 28 #[v0,v1,v2]) (hlo:w.heap.size≤mp) (hmB:mp<B) (hb:Below w.heap.size w w4):
 zdO w (setM w4 mp p.mb (.slice A H.length c)) mp 0 p A c H (newS (cS H)) 0∧za3 w.heap.size w4 (setM w4 mp p.mb (.slice A H.length c)):=by
 have ht:zam [mp] w4 (setM w4 mp p.mb (.slice A H.length c)):=(((zam.refl _ _).setCell (p:=⟨mp,0,none⟩) (.inl (by simp)) _).setCell (p:=⟨mp,1,none⟩) (.inl (by simp)) _).setCell (p:=⟨mp,2,none⟩) (.inl (by simp)) _
 have hTP:za3 w.heap.size w4 (setM w4 mp p.mb (.slice A H.length c)):=⟨[mp],ht,fun b hb=>by
  rw [List.mem_singleton] at hb
  subst hb
  exact ⟨hlo,fun t cs hC e=>hC.ne_ hB (by rw [e];decide) rfl⟩⟩
 refine ⟨⟨((hB.zbk 0 _).zbk 1 _).zbk 2 _,hT,(hr.low ht fun b hb=> ?_).base (by omega),hlo,fun hm=> ?_,hb.trans (hTP.below hb.size)⟩,hTP⟩
 ·rw [List.mem_singleton] at hb
  subst hb
  exact hmB
 ·have:=(hr.wsLt _ hm).1
  omega
set_option maxRecDepth 100000 in
theorem ans_hosts (hM:zfp w W mp n s) {A An:Option Addr} {c2:Nat} {H:List ByteArray} (hT:zcr w A c H):
 Calls Tryz.prog 9 #[.pointer (some ⟨mp,0,none⟩),.agg #[.string ⟨#[104,111,115,116,115]⟩,.slice A H.length c,.slice An 0 c2]] W (zat w mp (n+1) (zbt s H) W):=by
 obtain ⟨x0,x1,x2,hB,hlo,hbw,hx⟩:=hM.cells
 obtain ⟨W1,hW1⟩:∃W1,W1=W.alloc (.cells #[.string ⟨#[104,111,115,116,115]⟩,.slice A H.length c,.slice An 0 c2] 31):=⟨_,rfl⟩
 have hb1:Below W.heap.size W W1:=by rw [hW1];exact (Below.refl _ _).alloc (Nat.le_refl _) _
 have hk1:Blk W1 W.heap.size 31 #[.string ⟨#[104,111,115,116,115]⟩,.slice A H.length c,.slice An 0 c2]:=by rw [hW1];exact Blk.new _ _ _
 have hbw1:=zaa hbw hb1
 have HBF:=Lib.hid (balFault_ref A c H W1 (hT.below hbw1))
 have e1:W1.cell? ⟨W.heap.size,1,none⟩=some (.slice A H.length c):=hk1.cell 1
 cases hf:zaM H with
 |some f=>
  rw [hf] at HBF
  have hcd:=zfs hf
  obtain ⟨k,hk⟩:∃k,f.code=k+1:=⟨f.code-1,by have:=hcd.1;omega⟩
  have hk9:k<9:=by have:=hcd.2.1;omega
  have HT:=Lib.hid (fun w2=>zci k hk9 w2)
  have HF:Hid (∀w2,Below W1.heap.size W1 w2→zat w mp (n+1) (zbt s H) W (.returned (.string (ze8 (k+1)))) w2):=Lib.hid fun w2 hb2=>by
   have:zbt s H=((f.code,sOk),s):=by unfold zbt;rw [hf]
   rw [this]
   refine ans_keep ?_ hM (zaa hb1 hb2)
   unfold zbX
   rw [if_neg (by show¬f.code=0;omega)]
   show ze8 (k+1)=ze8 f.code
   rw [hk]
  unfold zaB at HBF
  obtain ⟨fa,hfa⟩:∃fa:Int,fAt (some f)=fa:=⟨_,rfl⟩
  have hfc:((zcv (some f):Nat):Int)=((k+1:Nat):Int):=by show ((f.code:Nat):Int)=_;rw [hk]
  rw [hfa,hfc] at HBF
  clear hM hT hB hx hb1 hk1 hbw hbw1 hf hcd hk hfa hfc e1
  generalize zat w mp (n+1) (zbt s H) W=PQ at*
  generalize ze8 (k+1)=tx at*
  go_enter Tryz.func9,Tryz.ntmps9
  go_wp2_with fail
  rw [←hW1]
  clear hW1
  refine HBF.out.mono ?_
  rintro e w2 ⟨rfl,hb2⟩
  have HB2:=Lib.hid (hb2.alloc hb2.size (.cells #[.int .i64 ((k+1:Nat):Int),.int .i64 fa] 50))
  clear hb2 HBF
  have d0:decide (((k+1:Nat):Int)>0)=true:=by simp
  go_wp2_with fail
  refine (HT.out _).mono ?_
  rintro e w3 ⟨rfl,hb3⟩
  have HQ:=Lib.hid (HF.out w3 (zaa HB2.out hb3))
  clear hb3 HB2 HF HT
  go_wp2
  exact HQ.out
 |none=>
  rw [hf] at HBF
  unfold zaB at HBF
  have h12:H.length≤12:=(zal.1 (by
   unfold zaM at hf
   split at hf
   ·cases hf
   ·exact hf)).1
  have HNB:Hid (∀W3,Below w.heap.size w W3→Calls Tryz.prog 18 #[.slice A H.length c,.int .i64 31,.int .i64 20,.int .i64 2,.int .i64 2] W3 (NewRefB (cS H) W3)):=Lib.hid fun W3 hb=>by
   have hT3:=hT.below hb
   exact refNewB (cS H) A c W3.heap.size W3 hT3.r (Nat.le_refl _) h12
  have hmlt:mp<W1.heap.size:=Nat.lt_of_lt_of_le hB.lt hb1.size
  have HM3:Hid (∀w4,Below W1.heap.size W1 w4→Blk w4 mp 28 #[x0,x1,x2]∧Blk w4 W.heap.size 31 #[.string ⟨#[104,111,115,116,115]⟩,.slice A H.length c,.slice An 0 c2]):=Lib.hid fun w4 hb4=>⟨hB.below (zaa hb1 hb4) hB.lt,hk1.below hb4 hk1.lt⟩
  have HF:Hid (∀w4 B (p:RBp),Below W1.heap.size W1 w4→zcE w4 B p (cS H) 0 (newS (cS H))→W1.heap.size≤B→zat w mp (n+1) (zbt s H) W (.returned (.string ⟨#[111,107]⟩)) (setM w4 mp p.mb (.slice A H.length c))):=Lib.hid fun w4 B p hb4 hr hB4=>by
   have:zbt s H=((0,sOk),⟨some (H,newS (cS H)),0⟩):=by unfold zbt;rw [hf]
   rw [this]
   obtain ⟨h1,h2⟩:=setM_model hT hr (HM3.out w4 hb4).1 hlo (by omega) (zaa hbw1 hb4)
   exact ans_of (s:=newS (cS H)) (now:=0) (A:=A) (c:=c) rfl rfl rfl ⟨p,h1.more (Nat.zero_le _)⟩ ⟨h2.from_ (zaa hb1 hb4),fun o _=>⟨_,h1.dv,.inr fun g hg=>by
    obtain ⟨dl,d1,_⟩:=hr.d
    exact Nat.le_trans hb1.size (Nat.le_trans hB4 (own_ge d1 hg))⟩⟩
  have hne:mp≠W.heap.size:=by have:=hB.lt;omega
  unfold NewRefB at HNB
  clear hM hT hB hx hb1 hk1 hbw hf h12 e1
  generalize zat w mp (n+1) (zbt s H) W=PQ at*
  go_enter Tryz.func9,Tryz.ntmps9
  go_wp2_with fail
  rw [←hW1]
  clear hW1
  refine HBF.out.mono ?_
  rintro e w2 ⟨rfl,hb2⟩
  rw [show ((zcv none:Nat):Int)=0 from rfl]
  have l0:(w2.alloc (.cells #[.int .i64 0,.int .i64 (fAt none)] 50)).cell? ⟨W.heap.size,1,none⟩=some (.slice A H.length c):=(HM3.out _ (hb2.alloc hb2.size (.cells #[.int .i64 0,.int .i64 (fAt none)] 50))).2.cell 1
  go_wp2_with fail
  obtain ⟨W3,hW3⟩:∃W3,W3=w2.alloc (.cells #[.int .i64 0,.int .i64 (fAt none)] 50):=⟨_,rfl⟩
  have hb3:Below W1.heap.size W1 W3:=by rw [hW3];exact hb2.alloc hb2.size _
  rw [←hW3]
  clear hW3 hb2 HBF l0
  refine (HNB.out W3 (zaa hbw1 hb3)).mono ?_
  rintro e w4 ⟨p,rfl,hr,hb4⟩
  have hb14:=zaa hb3 hb4
  have HQ:=Lib.hid (HF.out w4 _ p hb14 hr hb3.size)
  obtain ⟨hm4,hl4⟩:=HM3.out w4 hb14
  have c0:=hm4.cell 0
  have c1:=hm4.cell 1
  have c2':=hm4.cell 2
  have f0:=hm4.frozen 0
  have f1:=hm4.frozen 1
  have f2:=hm4.frozen 2
  have l1:=hl4.cell 1
  simp at c0 c1 c2' l1
  have hne2:¬W.heap.size=mp:=fun e=>hne e.symm
  clear hm4 hl4 hb14 hb4 hr hb3 HM3 HF HNB
  unfold setM at HQ
  go_wp2
  exact HQ.out
end
end Go.Proofs.YthkfhfldoniolaaGreatDoor
