/-
  Package script: what the commands of a balance do. Package script: what the other commands of a balance do. strconv.FormatUint in decimal digits. Package script: what the commands tell of a balance. Package script: rings, tables and flows. Package script: flows, jumps, and how hosts are begun anew.
-/
import Derived.Test.YthkfhfldoniolaaGreatDoorScrAct
set_option maxHeartbeats 1000000
namespace Go.Proofs.YthkfhfldoniolaaGreatDoor
open Go.RowKit
section
variable {av:Nat→Prop} {ea:Nat→Addr} {w W W':World} {pp lo hi k now:Nat} {p:BPl} {hv wv:Value} {hs:List ByteArray} {s:BS} {x:Wd}
structure ActC (W0:World) (pp bp now:Nat) (Ha:Option Addr) (Hc:Nat) (hs:List ByteArray) (A:Option Addr) (A2:Option Addr) (x:Wd) (W:World):Prop where
 p0:W.cell? ⟨pp,0,none⟩=some (.pointer (some ⟨bp,0,none⟩))
 p1:W.cell? ⟨pp,1,none⟩=some (.slice Ha hs.length Hc)
 p2:W.cell? ⟨pp,2,none⟩=some (.int .i64 (now:Int))
 z2:W.frozen? ⟨pp,2,none⟩=false
 t:zcr W Ha Hc hs
 h:∀(i:Nat) (y:ByteArray),x.h[i]? =some y→∃ad,A=some ad∧W.cell? (ad.add i)=some (.string y)
 n:∀(i y:Nat),x.n[i]? =some y→∃ad,A2=some ad∧W.cell? (ad.add i)=some (.int .i64 (y:Int))
 nb:∀ad,A2=some ad→0<x.n.length→∃cs,Blk W ad.block 3 cs
 hb:∀ad,A=some ad→0<x.h.length→∃cs,Blk W ad.block 9 cs
theorem zbM (hM:PlM av ea w W pp lo hi p hv hs s now) (hI:PlI hs k now s) (hx:zcJ W wv x):∃Ha Hc A c A2 c2,hv= .slice Ha hs.length Hc∧wv= .agg #[.slice A x.h.length c,.slice A2 x.n.length c2]∧∀W',Below W.heap.size W W'→ActC W pp p.bp now Ha Hc hs A A2 x W'∧zcJ W' wv x:=by
 obtain ⟨Ha,Hc,rfl,_,hc,hm⟩:=zai hM.row
 obtain ⟨A,c,A2,c2,rfl,r1,r2,hc1,b1,b2⟩:=hx.is
 refine ⟨Ha,Hc,A,c,A2,c2,rfl,rfl,fun W' hb=>⟨?_,hx.below hb⟩⟩
 have h:=hM.below hb
 refine ⟨h.blk.cell 0,h.blk.cell 1,h.blk.cell 2,h.blk.frozen 2,⟨Reads.zbv h.row,hc,hm,(zbN hI.ok.hf).2⟩,fun i y hy=> ?_,fun i y hy=> ?_,fun ad e h0=>(by obtain ⟨cs,h1⟩:=b2 ad e h0;exact ⟨cs,h1.below hb h1.lt⟩),fun ad e h0=>(by obtain ⟨cs,h1⟩:=b1 ad e h0;exact ⟨cs,h1.below hb h1.lt⟩)⟩
 ·have hi:i<x.h.length:=(List.getElem?_eq_some_iff.1 hy).1
  obtain ⟨ad,u,hA,_,hu,hcc⟩:=((r1.below hb).more hb.size).at_ hi
  refine ⟨ad,hA, ?_⟩
  rw [hcc,←hu]
  simp [zak,hy]
 ·have hi:i<x.n.length:=(List.getElem?_eq_some_iff.1 hy).1
  obtain ⟨ad,u,hA,_,hu,hcc⟩:=((r2.below hb).more hb.size).at_ hi
  refine ⟨ad,hA, ?_⟩
  rw [hcc,←hu]
  simp [natsV,hy]
def KeepS (W w2:World):Prop:=∀g t cs,Blk W g t cs→t≠166→t≠257→t≠225→Blk w2 g t cs
theorem PlM.keeps {w2:World} {bs:List Nat} (h:PlM av ea w W pp lo hi p hv hs s now) (ht:zam bs W w2) (hs':∀b∈bs,b∈p.bs):KeepS W w2:=
 fun _ _ _ hB h1 h2 h3=>ht.blk hB fun hm=>h.b.b.outS hB h1 h2 h3 (hs' _ hm)
theorem KeepS.cell {W w2:World} (h:KeepS W w2) {ad:Addr} {t:TypeId} {v:Value} (hB:∃cs,Blk W ad.block t cs) (hc:W.cell? ad=some v) (h1:t≠166) (h2:t≠257) (h3:t≠225):w2.cell? ad=some v:=by
 obtain ⟨cs,hB⟩:=hB
 have h4:=h _ _ _ hB h1 h2 h3
 rw [World.cell?_of_block (show w2.heap[ad.block]? =W.heap[ad.block]? from h4.trans hB.symm)]
 exact hc
theorem zd3 (ad:Addr):ad.add 0=ad:=by simp [Addr.add]
theorem addr1 (ad:Addr):ad.add 1=⟨ad.block,ad.off+1,none⟩:=by simp [Addr.add]
theorem choose_any (b:Bool) (x y:ByteArray) (W:World):Calls Tryz.prog 96 #[.bool b,.string x,.string y] W fun e w'=>e= .returned (.string (if b=true then x else y))∧W=w':=by
 cases b
 ·go_enter Tryz.func96,Tryz.ntmps96
  go_wp2
  go_ret
  exact ⟨rfl,rfl⟩
 ·go_enter Tryz.func96,Tryz.ntmps96
  go_wp2
  go_ret
  exact ⟨rfl,rfl⟩
theorem PlI.more (h:PlI hs k now s):PlI hs (k+1) now s:=
 ⟨h.ok,h.st,h.rise,h.last,by have:=h.nw;omega,by have:=h.ep;omega,by have:=h.nd;omega,h.fl⟩
theorem PlI.pick (h:PlI hs k now s) (hk:k≤1000) {n:Nat} (hn:U64 n):PlI hs (k+1) now (zbz (cS hs) s n now).2:=by
 have hnw:=h.nw
 have hst:(zbz (cS hs) s n now).2.st=s.st:=by
  unfold zbz
  split
  ·split
   ·rfl
   ·split<;>rfl
  ·rfl
 have hput:∀z:ByteArray,z∈hs→∀y∈zeg s.fs.2 ⟨n,z,(now:Int)+(cS hs).time⟩,y.host∈hs∧0≤y.til∧y.til≤(now:Int)+20∧U64 y.key:=fun z hz y hy=>by
  have hm:y=⟨n,z,(now:Int)+(cS hs).time⟩∨y∈s.fs.2:=by
   unfold zeg at hy
   rcases mem_insF.1 hy with hy|hy
   ·exact .inl hy
   ·have h1:y∈zct s.fs.2 n:=zeL hy
    unfold zct at h1
    split at h1
    ·exact .inr h1
    ·exact .inr (zeL h1)
  rcases hm with rfl|hy
  ·exact ⟨hz,by show (0:Int)≤(now:Int)+((20:Nat):Int);omega,by show (now:Int)+((20:Nat):Int)≤_;omega,hn⟩
  ·exact h.fl y hy
 unfold zbz
 rw [if_pos (tick_zero h.last (by omega)),Int.toNat_natCast]
 cases hkt:zee s n now with
 |some z=>
  refine ⟨h.ok,h.st,rise_put h.rise _,Nat.le_refl _,by omega,by have:=h.ep;show s.epoch≤k+1;omega,by have:=h.nd;show s.nd≤k+1;omega,hput z ?_⟩
  unfold zee at hkt
  cases hg:ze1 s.fs.2 n now with
  |none=>rw [hg] at hkt;cases hkt
  |some u=>
   rw [hg] at hkt
   dsimp only at hkt
   split at hkt
   ·obtain rfl:=Option.some.inj hkt
    have:=upOf_mem (by assumption:ze0 s.st u=true)
    rw [h.st] at this
    exact this
   ·cases hkt
 |none=>
  dsimp only
  split
  ·exact ⟨h.ok,h.st,h.rise,Nat.le_refl _,by omega,by have:=h.ep;show s.epoch≤k+1;omega,by have:=h.nd;show s.nd≤k+1;omega,h.fl⟩
  ·rename_i ho
   refine ⟨h.ok,h.st,rise_put h.rise _,Nat.le_refl _,by omega,by have:=h.ep;show s.epoch≤k+1;omega,by have:=h.nd;show s.nd≤k+1;omega,hput _ ?_⟩
   have hsub:(zaj s).Sublist hs:=by
    have:(zaj s).Sublist (hosts s.st):=by
     unfold zaj
     exact (List.filter_sublist).trans (zfn s.st)
    rwa [h.st] at this
   have htf:=zdB h.ok.tf hsub (List.length_pos_iff.2 ho)
   exact hsub.subset (zeO ho htf (Nat.mod_lt _ (by show 0<31;omega)))
theorem zdJ (y z:ByteArray):y++z=bt (y.data.toList++z.data.toList):=by
 apply zft
 simp [bt]
theorem zck {w2:World} {t:ByteArray} {ev:Value} {r:(Nat×ByteArray)×PlS} (hI:PlI hs k r.2.now s) (hM:PlM av ea w w2 pp lo hi p hv hs s r.2.now) (hb:r.2.b=some (hs,s)) (hT:za3 w.heap.size W w2) (hev:zcw ea w2 ev r.1.1) (ht:r.1.1=0→t=r.1.2):
 zae av ea w pp k r W (.returned (.tuple #[.string t,ev])) w2:=by
 refine ⟨t,ev,rfl,hev,ht, ?_,hT⟩
 unfold zaX
 rw [hb]
 exact ⟨hI,lo,hi,p,hv,hM⟩
theorem zeT {s:ByteArray} (h:isName s=true):s.size≤12:=by
 unfold isName at h
 simp only [Bool.and_eq_true,decide_eq_true_eq,nums_length] at h
 exact h.1.1.1.2
theorem PlI.small (h:PlI hs k now s):∀y∈hs,y.size≤12:=fun y hy=>zeT ((zal.1 h.ok.hf).2.1 y hy)
theorem PlI.pickHost (h:PlI hs k now s) (n:Nat):(zbz (cS hs) s n now).1.1.size≤12:=by
 unfold zbz
 split
 ·cases hkt:zee s n now with
  |some z=>
   refine h.small z ?_
   unfold zee at hkt
   cases hg:ze1 s.fs.2 n now with
   |none=>rw [hg] at hkt;cases hkt
   |some u=>
    rw [hg] at hkt
    dsimp only at hkt
    split at hkt
    ·obtain rfl:=Option.some.inj hkt
     have:=upOf_mem (by assumption:ze0 s.st u=true)
     rw [h.st] at this
     exact this
    ·cases hkt
  |none=>
   dsimp only
   split
   ·show 0≤12;omega
   ·rename_i ho
    have hsub:(zaj s).Sublist hs:=by
     have:(zaj s).Sublist (hosts s.st):=by
      unfold zaj
      exact (List.filter_sublist).trans (zfn s.st)
     rwa [h.st] at this
    have htf:=zdB h.ok.tf hsub (List.length_pos_iff.2 ho)
    exact h.small _ (hsub.subset (zeO ho htf (Nat.mod_lt _ (by show 0<31;omega))))
 ·show 0≤12;omega
set_option maxRecDepth 100000 in
theorem act_pick (hI:PlI hs k now s) (hM:PlM av ea w W pp lo hi p hv hs s now) (hk:k≤1000) (n:Nat) (hn:n≤9999999) (hx:zcJ W wv ⟨[],[n]⟩):
 Calls Tryz.prog 94 #[.pointer (some ⟨pp,0,none⟩),wv] W (zae av ea w pp (k+1) (zaJ .pick ⟨[],[n]⟩ hs s now) W):=by
 obtain ⟨Ha,Hc,A,c,A2,c2,rfl,rfl,hcs⟩:=zbM hM hI hx
 have hU:U64 n:=by unfold U64;omega
 have hwn:IntKind.u64.wrap (n:Int)=(n:Int):=by rw [IntKind.wrap_u64];omega
 obtain ⟨W1,hW1⟩:∃W1,W1=W.alloc (.cells #[.slice A 0 c,.slice A2 1 c2] 110):=⟨_,rfl⟩
 have hb1:Below W.heap.size W W1:=by rw [hW1];exact (Below.refl _ _).alloc (Nat.le_refl _) _
 have hk1:Blk W1 W.heap.size 110 #[.slice A 0 c,.slice A2 1 c2]:=by rw [hW1];exact Blk.new _ _ _
 have HC:=(hcs W1.drew (zad hb1)).1
 obtain ⟨ad,hA2,hn0⟩:=HC.n 0 n rfl
 subst hA2
 rw [zd3] at hn0
 have HNB:=Lib.hid (HC.nb ad rfl (by simp))
 have hS:W1.drew.cell? ⟨pp,0,none⟩=some (.pointer (some ⟨p.bp,0,none⟩))∧W1.drew.cell? ⟨pp,2,none⟩=some (.int .i64 (now:Int))∧W1.drew.cell? ⟨W.heap.size,1,none⟩=some (.slice (some ad) 1 c2)∧W1.drew.cell? ad=some (.int .i64 (n:Int)):=⟨HC.p0,HC.p2,hk1.cell 1,hn0⟩
 obtain ⟨r,hr⟩:∃r,r=zbz (cS hs) s n now:=⟨_,rfl⟩
 have HF:Hid (∀w2,PlM av ea w w2 pp lo hi p (.slice Ha hs.length Hc) hs r.2 now→za3 w.heap.size W w2→zae av ea w pp (k+1) (zaJ .pick ⟨[],[n]⟩ hs s now) W (.returned (.tuple #[.string (r.1.1++if r.1.2.1=true then ⟨#[32,107,101,112,116]⟩ else ⟨#[32,110,101,119]⟩),errZ ea r.1.2.2])) w2):=Lib.hid fun w2 h1 h2=>by
  rw [hr] at h1 ⊢
  exact zck (hI.pick hk hU) h1 rfl h2 (told_z (pickS_code _ _ _ _)) fun _=>by rw [zdJ];split<;>simp_all [zaJ]
 have HP:Hid (Calls Tryz.prog 95 #[.pointer (some ⟨p.bp,0,none⟩),.int .u64 (n:Int),.int .i64 (now:Int)] W1.drew fun e w'=>e= .returned (.tuple #[.string r.1.1,.bool r.1.2.1,errZ ea r.1.2.2])∧PlM av ea w w' pp lo hi p (.slice Ha hs.length Hc) hs r.2 now∧za3 w.heap.size W w'∧KeepS W1.drew w'):=Lib.hid (by
  have h1:=hM.below (zad hb1)
  rw [hr]
  refine (pick_any ea n now W1.drew h1.b.e h1.b.b hI.ok hU).mono fun e w' ⟨a,b,t⟩=>⟨a, ?_⟩
  obtain ⟨u,v⟩:=h1.act (h1.b.turn b t p.fm) t p.fm
  exact ⟨u,v.from_ (zad hb1),h1.keeps t p.fm⟩)
 have hsz:r.1.1.size≤12:=by rw [hr];exact hI.pickHost n
 have HCh:=Lib.hid (choose_any r.1.2.1 ⟨#[32,107,101,112,116]⟩ ⟨#[32,110,101,119]⟩)
 clear hr hI hM hx hcs hU HC
 generalize zae av ea w pp (k+1) (zaJ .pick ⟨[],[n]⟩ hs s now) W=PQ at*
 obtain ⟨⟨y,kept,code⟩,s'⟩:=r
 dsimp only at HP HF HCh hsz
 have s4:¬9223372036854775807<y.size+4:=by omega
 have s5:¬9223372036854775807<y.size+5:=by omega
 clear hsz
 go_enter Tryz.func94,Tryz.ntmps94
 go_wp2_with fail
 rw [←hW1]
 clear hW1
 go_region_held3 (fun w'=>w'.cell? ⟨pp,0,none⟩=some (.pointer (some ⟨p.bp,0,none⟩))∧w'.cell? ⟨pp,2,none⟩=some (.int .i64 (now:Int))∧w'.cell? ⟨W.heap.size,1,none⟩=some (.slice (some ad) 1 c2)∧w'.cell? ad=some (.int .i64 (n:Int))) (first|exact hS2|exact hS|go_keep) (first
  |(go_at_call 95
    refine HP.out.mono ?_
    rintro e w2 ⟨rfl,hM2,hT2,hK2⟩
    have hS2:w2.cell? ⟨pp,0,none⟩=some (.pointer (some ⟨p.bp,0,none⟩))∧w2.cell? ⟨pp,2,none⟩=some (.int .i64 (now:Int))∧w2.cell? ⟨W.heap.size,1,none⟩=some (.slice (some ad) 1 c2)∧w2.cell? ad=some (.int .i64 (n:Int)):=⟨hM2.blk.cell 0,hM2.blk.cell 2,(hK2 _ _ _ hk1 (by decide) (by decide) (by decide)).cell 1,hK2.cell HNB.out hn0 (by decide) (by decide) (by decide)⟩))
 all_goals
  have HQ:=Lib.hid (HF.out w2 hM2 hT2)
  clear hS hS2 hM2 hT2 hK2 HF HP
  go_wp2_with fail
  refine (HCh.out _).mono ?_
  rintro e w3 ⟨rfl,rfl⟩
  cases kept
  all_goals
   go_wp2
   exact HQ.out
end
end Go.Proofs.YthkfhfldoniolaaGreatDoor
namespace Go.Proofs.YthkfhfldoniolaaGreatDoor
open Go.RowKit
theorem join_len (sep:List UInt8) (m:Nat):∀xs:List (List UInt8),(∀x∈xs,x.length≤m)→(Lib.join xs sep).length≤xs.length*(m+sep.length)
 |[],_=>by simp [Lib.join,List.intercalate]
 |[x],h=>by
  have:=h x (by simp)
  simp [Lib.join,List.intercalate]
  omega
 |x::y::r,h=>by
  have h1:=h x (by simp)
  have h2:=join_len sep m (y::r) (fun z hz=>h z (List.mem_cons_of_mem _ hz))
  unfold Lib.join at h2 ⊢
  rw [show sep.intercalate (x::y::r)=x++(sep++sep.intercalate (y::r)) by simp [List.intercalate],List.length_append,List.length_append]
  have e:(x::y::r).length*(m+sep.length)=(y::r).length*(m+sep.length)+(m+sep.length):=by
   rw [List.length_cons,Nat.succ_mul]
  omega
theorem zdN (A:Option Addr) (c:Nat) (l:List ByteArray) (sep:ByteArray) (W:World) (hr:Reads W W.heap.size 1 A l.length (zak l)) (hA:0<l.length→∃g,A=some ⟨g,0,none⟩) (hc:l.length≤c) (hl:l.length≤1000) (hz:∀x∈l,x.size≤1000) (hs:sep.size≤10):
 Calls Tryz.prog 87 #[.slice A l.length c,.string sep] W fun e w'=>e= .returned (.string (zbA l sep.data.toList))∧Below W.heap.size W w':=by
 by_cases h0:l=[]
 ·subst h0
  go_enter Tryz.func87,Tryz.ntmps87
  go_wp2
  go_ret
  exact ⟨rfl,Below.refl _ _⟩
 ·have hpos:0<l.length:=List.length_pos_iff.2 h0
  obtain ⟨g,rfl⟩:=hA hpos
  have hj:zbA l sep.data.toList=⟨(Lib.join (l.map (·.data.toList)) sep.data.toList).toArray⟩:=by unfold zbA;rw [if_neg h0];rfl
  have hlen:(Lib.join (l.map (·.data.toList)) sep.data.toList).length≤140737488355328:=by
   have h1:=join_len sep.data.toList 1000 (l.map (·.data.toList)) (fun x hx=>by
    obtain ⟨y,hy,rfl⟩:=List.mem_map.1 hx
    have:=hz y hy
    simpa using this)
   have hsl:sep.data.toList.length=sep.size:=by simp
   have h2:(l.map (·.data.toList)).length*(1000+sep.data.toList.length)≤1000*1010:=Nat.mul_le_mul (by simpa using hl) (by omega)
   omega
  obtain ⟨ad,e,hlt,hcc⟩:=hr.2 hpos
  cases e
  have HJ:Hid (Calls Tryz.prog 136 #[.slice (some ⟨g,0,none⟩) l.length c,.string sep] W fun e w'=>e= .returned (.string (zbA l sep.data.toList))∧Below W.heap.size W w'):=Lib.hid (by
   rw [hj]
   refine Tryz.strings_Join g 0 c l sep W (fun j x hx=> ?_) hlt (by omega) hc hlen
   have h3:=hcc j (.string x) (by simp [zak,hx])
   by_cases hj0:j=0
   ·subst hj0;simpa [Addr.add] using h3
   ·simpa [Addr.add,hj0] using h3)
  have hn0:((l.length:Int)==0)=false:=by simp;omega
  have hn1:¬l.length=0:=by omega
  clear hr hA hz hs hj hlen hcc
  generalize l.length=n at*
  generalize zbA l sep.data.toList=r at*
  go_enter Tryz.func87,Tryz.ntmps87
  go_wp2_with fail
  refine HJ.out.mono ?_
  rintro e w1 ⟨rfl,hb⟩
  have HB:=Lib.hid hb
  clear hb HJ
  go_wp2
  go_ret
  exact ⟨rfl,HB.out⟩
section
variable {av:Nat→Prop} {ea:Nat→Addr} {w W W':World} {pp lo hi k now:Nat} {p:BPl} {hv wv:Value} {hs:List ByteArray} {s:BS} {x:Wd}
set_option maxRecDepth 100000 in
theorem act_tick (hE:zbO ea w) (hI:PlI hs k now s) (hM:PlM av ea w W pp lo hi p hv hs s now) (hk:k≤1000) (n:Nat) (hn:n≤9999999) (hx:zcJ W wv ⟨[],[n]⟩):
 Calls Tryz.prog 101 #[.pointer (some ⟨pp,0,none⟩),wv] W (zae av ea w pp (k+1) (zaJ .tick ⟨[],[n]⟩ hs s now) W):=by
 obtain ⟨Ha,Hc,A,c,A2,c2,rfl,rfl,hcs⟩:=zbM hM hI hx
 obtain ⟨W1,hW1⟩:∃W1,W1=W.alloc (.cells #[.slice A 0 c,.slice A2 1 c2] 110):=⟨_,rfl⟩
 have hb1:Below W.heap.size W W1:=by rw [hW1];exact (Below.refl _ _).alloc (Nat.le_refl _) _
 have hk1:Blk W1 W.heap.size 110 #[.slice A 0 c,.slice A2 1 c2]:=by rw [hW1];exact Blk.new _ _ _
 have HC:=(hcs W1.drew (zad hb1)).1
 obtain ⟨ad,hA2,hn0⟩:=HC.n 0 n rfl
 subst hA2
 rw [zd3] at hn0
 have q0:=HC.p2
 have q1:=HC.z2
 have q2:W1.drew.cell? ⟨W.heap.size,1,none⟩=some (.slice (some ad) 1 c2):=hk1.cell 1
 have hnw:=hI.nw
 have hsum:IntKind.i64.wrap ((now:Int)+(n:Int))=(now:Int)+(n:Int):=IntWalk.i64_in _ (by omega)
 have HF:Hid (zae av ea w pp (k+1) (zaJ .tick ⟨[],[n]⟩ hs s now) W (.returned (.tuple #[.string ⟨#[111,107]⟩,.nilIface])) (W1.setCell ⟨pp,2,none⟩ (.int .i64 ((now:Int)+(n:Int)))).drew):=Lib.hid (by
  rw [show (now:Int)+(n:Int)=((now+n:Nat):Int) by omega]
  obtain ⟨u0,v0⟩:=(hM.below hb1).tick hE (now+n)
  have u:=u0.below (zad (Below.refl _ _))
  have v:=v0.zd6 (zad (Below.refl _ _))
  refine zck (r:=zaJ .tick ⟨[],[n]⟩ hs s now) (s:=s) ⟨hI.ok,hI.st,hI.rise, ?_, ?_, ?_, ?_,fun y hy=> ?_⟩ u rfl (v.from_ hb1) (.inl ⟨rfl,rfl⟩) fun _=>rfl
  ·have:=hI.last
   show s.fs.1≤now+n
   omega
  ·show now+n≤10000000*(k+1)
   omega
  ·have:=hI.ep;omega
  ·have:=hI.nd;omega
  ·have:=hI.fl y hy
   exact ⟨this.1,this.2.1,by have:=this.2.2.1;show y.til≤((now+n:Nat):Int)+20;omega,this.2.2.2⟩)
 clear hI hM hx hcs HC hnw
 generalize zae av ea w pp (k+1) (zaJ .tick ⟨[],[n]⟩ hs s now) W=PQ at*
 go_enter Tryz.func101,Tryz.ntmps101
 go_wp2_with fail
 rw [←hW1]
 clear hW1
 go_region
 all_goals
  have HQ:=HF
  clear HF q0 q1 q2
  go_wp2
  exact HQ.out
theorem PlI.look (h:PlI hs k now s) (z:ByteArray) (b:Bool):PlI hs (k+1) now (zcl (cS hs) s z b).2:=by
 have hst:hosts (zcl (cS hs) s z b).2.st=hosts s.st:=by
  have h1:hosts (zbb (cS hs) s z b).1=hosts s.st:=by
   unfold zbb zbC
   split
   ·rfl
   ·split
    ·rename_i q hq
     exact zdZ hq zff
    ·rfl
  unfold zcl
  dsimp only
  split
  ·exact h1
  ·exact h1
 have hm:=h.more
 refine ⟨h.ok,hst.trans h.st, ?_, ?_,hm.nw, ?_, ?_,fun y hy=> ?_⟩
 ·unfold zcl
  dsimp only
  split
  ·exact h.rise.filter _
  ·exact h.rise
 ·unfold zcl
  dsimp only
  split<;>exact h.last
 ·unfold zcl
  dsimp only
  split<;>exact hm.ep
 ·unfold zcl
  dsimp only
  split<;>exact hm.nd
 ·unfold zcl at hy
  dsimp only at hy
  split at hy
  ·exact h.fl y (List.mem_filter.1 hy).1
  ·exact h.fl y hy
theorem PlI.drain (h:PlI hs k now s) (z:ByteArray) (b:Bool):PlI hs (k+1) now { s with dr:=fun y=>if y=z then b else s.dr y,nd:=s.nd+1 }:=
 ⟨h.ok,h.st,h.rise,h.last,h.more.nw,h.more.ep,by have:=h.nd;show s.nd+1≤k+1;omega,h.fl⟩
def DrainEnd (av:Nat→Prop) (ea:Nat→Addr) (w w2:World) (pp lo hi:Nat) (p:BPl) (hv:Value) (hs:List ByteArray) (s:BS) (now:Nat) (z:ByteArray) (b:Bool) (ev:Value):Prop:=
 (z∈hs∧ev= .nilIface∧PlM av ea w w2 pp lo hi p hv hs { s with dr:=fun y=>if y=z then b else s.dr y,nd:=s.nd+1 } now)∨(z∉hs∧ev=errB ea 5∧PlM av ea w w2 pp lo hi p hv hs s now)
theorem DrainEnd.pp0 {w2:World} {z:ByteArray} {b:Bool} {ev:Value} (h:DrainEnd av ea w w2 pp lo hi p hv hs s now z b ev):w2.cell? ⟨pp,0,none⟩=some (.pointer (some ⟨p.bp,0,none⟩)):=by
 rcases h with ⟨_,_,h⟩|⟨_,_,h⟩
 ·exact h.blk.cell 0
 ·exact h.blk.cell 0
set_option maxRecDepth 100000 in
theorem act_look (hI:PlI hs k now s) (hM:PlM av ea w W pp lo hi p hv hs s now) (z:ByteArray) (n:Nat) (hx:zcJ W wv ⟨[z],[n]⟩):
 Calls Tryz.prog 97 #[.pointer (some ⟨pp,0,none⟩),wv] W (zae av ea w pp (k+1) (zaJ .look ⟨[z],[n]⟩ hs s now) W):=by
 obtain ⟨Ha,Hc,A,c,A2,c2,rfl,rfl,hcs⟩:=zbM hM hI hx
 obtain ⟨W1,hW1⟩:∃W1,W1=W.alloc (.cells #[.slice A 1 c,.slice A2 1 c2] 110):=⟨_,rfl⟩
 have hb1:Below W.heap.size W W1:=by rw [hW1];exact (Below.refl _ _).alloc (Nat.le_refl _) _
 have hk1:Blk W1 W.heap.size 110 #[.slice A 1 c,.slice A2 1 c2]:=by rw [hW1];exact Blk.new _ _ _
 have HC:=(hcs W1.drew (zad hb1)).1
 obtain ⟨ad,hA2,hn0⟩:=HC.n 0 n rfl
 subst hA2
 rw [zd3] at hn0
 obtain ⟨bd,hA,hz0⟩:=HC.h 0 z rfl
 subst hA
 rw [zd3] at hz0
 have HNB:=Lib.hid (HC.nb ad rfl (by simp))
 have HHB:=Lib.hid (HC.hb bd rfl (by simp))
 obtain ⟨b,hb⟩:∃b,b=decide (n=1):=⟨_,rfl⟩
 have he:((n:Int)==1)=b:=by
  rw [hb]
  by_cases h:n=1
  ·subst h;rfl
  ·rw [decide_eq_false h]
   simp
   omega
 have hS:W1.drew.cell? ⟨pp,0,none⟩=some (.pointer (some ⟨p.bp,0,none⟩))∧W1.drew.cell? ⟨W.heap.size,0,none⟩=some (.slice (some bd) 1 c)∧W1.drew.cell? ⟨W.heap.size,1,none⟩=some (.slice (some ad) 1 c2)∧W1.drew.cell? bd=some (.string z)∧W1.drew.cell? ad=some (.int .i64 (n:Int)):=⟨HC.p0,hk1.cell 0,hk1.cell 1,hz0,hn0⟩
 obtain ⟨r,hr⟩:∃r,r=zcl (cS hs) s z b:=⟨_,rfl⟩
 have HF:Hid (∀w2,PlM av ea w w2 pp lo hi p (.slice Ha hs.length Hc) hs r.2 now→za3 w.heap.size W w2→zae av ea w pp (k+1) (zaJ .look ⟨[z],[n]⟩ hs s now) W (.returned (.tuple #[.string (if r.1.1=true then ⟨#[116,117,114,110,101,100]⟩ else ⟨#[115,97,109,101]⟩),errZ ea r.1.2])) w2):=Lib.hid fun w2 h1 h2=>by
  rw [hr,hb] at h1 ⊢
  refine zck (hI.look z _) h1 rfl h2 (told_z (remCode_code _ _)) fun _=> ?_
  show _=(if (zcl (cS hs) s z (decide (n=1))).1.1=true then _ else _)
  split<;>rfl
 have HP:Hid (Calls Tryz.prog 98 #[.pointer (some ⟨p.bp,0,none⟩),.string z,.bool b] W1.drew fun e w'=>e= .returned (.tuple #[.bool r.1.1,errZ ea r.1.2])∧PlM av ea w w' pp lo hi p (.slice Ha hs.length Hc) hs r.2 now∧za3 w.heap.size W w'∧KeepS W1.drew w'):=Lib.hid (by
  have h1:=hM.below (zad hb1)
  rw [hr]
  refine (bn_look z b h1.b hI.ok).mono fun e w' ⟨a,b,t⟩=>⟨a, ?_⟩
  obtain ⟨u,v⟩:=h1.act b t (fun _ h=>h)
  exact ⟨u,v.from_ (zad hb1),h1.keeps t (fun _ h=>h)⟩)
 have HCh:=Lib.hid (choose_any r.1.1 ⟨#[116,117,114,110,101,100]⟩ ⟨#[115,97,109,101]⟩)
 clear hr hb hI hM hx hcs HC
 generalize zae av ea w pp (k+1) (zaJ .look ⟨[z],[n]⟩ hs s now) W=PQ at*
 obtain ⟨⟨turned,code⟩,s'⟩:=r
 dsimp only at HP HF HCh
 go_enter Tryz.func97,Tryz.ntmps97
 go_wp2_with fail
 rw [←hW1]
 clear hW1
 go_region_held3 (fun w'=>w'.cell? ⟨pp,0,none⟩=some (.pointer (some ⟨p.bp,0,none⟩))∧w'.cell? ⟨W.heap.size,0,none⟩=some (.slice (some bd) 1 c)∧w'.cell? ⟨W.heap.size,1,none⟩=some (.slice (some ad) 1 c2)∧w'.cell? bd=some (.string z)∧w'.cell? ad=some (.int .i64 (n:Int))) (first|exact hS2|exact hS|go_keep) (first
  |(go_at_call 98
    refine HP.out.mono ?_
    rintro e w2 ⟨rfl,hM2,hT2,hK2⟩
    have hS2:w2.cell? ⟨pp,0,none⟩=some (.pointer (some ⟨p.bp,0,none⟩))∧w2.cell? ⟨W.heap.size,0,none⟩=some (.slice (some bd) 1 c)∧w2.cell? ⟨W.heap.size,1,none⟩=some (.slice (some ad) 1 c2)∧w2.cell? bd=some (.string z)∧w2.cell? ad=some (.int .i64 (n:Int)):=⟨hM2.blk.cell 0,(hK2 _ _ _ hk1 (by decide) (by decide) (by decide)).cell 0,(hK2 _ _ _ hk1 (by decide) (by decide) (by decide)).cell 1,hK2.cell HHB.out hz0 (by decide) (by decide) (by decide),hK2.cell HNB.out hn0 (by decide) (by decide) (by decide)⟩))
 all_goals
  have HQ:=Lib.hid (HF.out w2 hM2 hT2)
  clear hS hS2 hM2 hT2 hK2 HF HP
  go_wp2_with fail
  refine (HCh.out _).mono ?_
  rintro e w3 ⟨rfl,rfl⟩
  cases turned
  all_goals
   go_wp2
   exact HQ.out
set_option maxRecDepth 100000 in
theorem act_drain (hI:PlI hs k now s) (hM:PlM av ea w W pp lo hi p hv hs s now) (hk:k≤1000) (z:ByteArray) (hz:z.size≤1000000) (n:Nat) (hx:zcJ W wv ⟨[z],[n]⟩):
 Calls Tryz.prog 99 #[.pointer (some ⟨pp,0,none⟩),wv] W (zae av ea w pp (k+1) (zaJ .drain ⟨[z],[n]⟩ hs s now) W):=by
 obtain ⟨Ha,Hc,A,c,A2,c2,rfl,rfl,hcs⟩:=zbM hM hI hx
 obtain ⟨W1,hW1⟩:∃W1,W1=W.alloc (.cells #[.slice A 1 c,.slice A2 1 c2] 110):=⟨_,rfl⟩
 have hb1:Below W.heap.size W W1:=by rw [hW1];exact (Below.refl _ _).alloc (Nat.le_refl _) _
 have hk1:Blk W1 W.heap.size 110 #[.slice A 1 c,.slice A2 1 c2]:=by rw [hW1];exact Blk.new _ _ _
 have HC:=(hcs W1.drew (zad hb1)).1
 obtain ⟨ad,hA2,hn0⟩:=HC.n 0 n rfl
 subst hA2
 rw [zd3] at hn0
 obtain ⟨bd,hA,hz0⟩:=HC.h 0 z rfl
 subst hA
 rw [zd3] at hz0
 have HNB:=Lib.hid (HC.nb ad rfl (by simp))
 have HHB:=Lib.hid (HC.hb bd rfl (by simp))
 obtain ⟨b,hb⟩:∃b,b=decide (n=1):=⟨_,rfl⟩
 have he:((n:Int)==1)=b:=by
  rw [hb]
  by_cases h:n=1
  ·subst h;rfl
  ·rw [decide_eq_false h]
   simp
   omega
 have hS:W1.drew.cell? ⟨pp,0,none⟩=some (.pointer (some ⟨p.bp,0,none⟩))∧W1.drew.cell? ⟨W.heap.size,0,none⟩=some (.slice (some bd) 1 c)∧W1.drew.cell? ⟨W.heap.size,1,none⟩=some (.slice (some ad) 1 c2)∧W1.drew.cell? bd=some (.string z)∧W1.drew.cell? ad=some (.int .i64 (n:Int)):=⟨HC.p0,hk1.cell 0,hk1.cell 1,hz0,hn0⟩
 have HF:Hid (∀w2 ev,DrainEnd av ea w w2 pp lo hi p (.slice Ha hs.length Hc) hs s now z b ev→za3 w.heap.size W w2→zae av ea w pp (k+1) (zaJ .drain ⟨[z],[n]⟩ hs s now) W (.returned (.tuple #[.string ⟨#[111,107]⟩,ev])) w2):=Lib.hid fun w2 ev h1 h2=>by
  rw [hb] at h1
  have hin:has hs z=true↔z∈hs:=zbw
  unfold zaJ
  rcases h1 with ⟨hm,rfl,h1⟩|⟨hm,rfl,h1⟩
  ·rw [show ([z]:List ByteArray).getD 0 ⟨#[]⟩=z from rfl,if_pos (hin.2 hm)]
   exact zck (hI.drain z _) h1 rfl h2 (.inl ⟨rfl,rfl⟩) fun _=>rfl
  ·rw [show ([z]:List ByteArray).getD 0 ⟨#[]⟩=z from rfl,if_neg (fun h=>hm (hin.1 h))]
   exact zck hI.more h1 rfl h2 (.inr ⟨za1 (by simp),⟨5,none⟩,_,_,rfl,⟨rfl,rfl⟩,rfl⟩) fun h=>absurd (show (5:Nat)=0 from h) (by decide)
 have HP:Hid (Calls Tryz.prog 100 #[.pointer (some ⟨p.bp,0,none⟩),.string z,.bool b] W1.drew fun e w'=>∃ev,e= .returned ev∧DrainEnd av ea w w' pp lo hi p (.slice Ha hs.length Hc) hs s now z b ev∧za3 w.heap.size W w'∧KeepS W1.drew w'):=Lib.hid (by
  have h1:=hM.below (zad hb1)
  have hnd:=hI.nd
  have hdb:∀g∈[p.db],g∈p.bs:=by intro g hg;rw [List.mem_singleton] at hg;subst hg;simp [BPl.bs]
  refine (drain_any ea z b W1.drew h1.b.e h1.b.b (by unfold maxLen;omega) (by omega)).mono fun e w' hp=> ?_
  rcases hp with ⟨hm,rfl,hb2,t⟩|⟨hm,rfl,hb2,t⟩
  ·obtain ⟨u,v⟩:=h1.act (h1.b.turn hb2 t hdb) t hdb
   exact ⟨_,rfl,.inl ⟨hm,rfl,u⟩,v.from_ (zad hb1),h1.keeps t hdb⟩
  ·exact ⟨_,rfl,.inr ⟨hm,rfl,h1.below t⟩,(za3.of_below t).from_ (zad hb1),fun _ _ _ hB _ _ _=>hB.below t hB.lt⟩)
 clear hb hI hM hx hcs HC
 generalize zae av ea w pp (k+1) (zaJ .drain ⟨[z],[n]⟩ hs s now) W=PQ at*
 go_enter Tryz.func99,Tryz.ntmps99
 go_wp2_with fail
 rw [←hW1]
 clear hW1
 go_region_held3 (fun w'=>w'.cell? ⟨pp,0,none⟩=some (.pointer (some ⟨p.bp,0,none⟩))∧w'.cell? ⟨W.heap.size,0,none⟩=some (.slice (some bd) 1 c)∧w'.cell? ⟨W.heap.size,1,none⟩=some (.slice (some ad) 1 c2)∧w'.cell? bd=some (.string z)∧w'.cell? ad=some (.int .i64 (n:Int))) (first|exact hS2|exact hS|go_keep) (first
  |(go_at_call 100
    refine HP.out.mono ?_
    rintro e w2 ⟨ev,rfl,hM2,hT2,hK2⟩
    have hS2:w2.cell? ⟨pp,0,none⟩=some (.pointer (some ⟨p.bp,0,none⟩))∧w2.cell? ⟨W.heap.size,0,none⟩=some (.slice (some bd) 1 c)∧w2.cell? ⟨W.heap.size,1,none⟩=some (.slice (some ad) 1 c2)∧w2.cell? bd=some (.string z)∧w2.cell? ad=some (.int .i64 (n:Int)):=⟨hM2.pp0,(hK2 _ _ _ hk1 (by decide) (by decide) (by decide)).cell 0,(hK2 _ _ _ hk1 (by decide) (by decide) (by decide)).cell 1,hK2.cell HHB.out hz0 (by decide) (by decide) (by decide),hK2.cell HNB.out hn0 (by decide) (by decide) (by decide)⟩))
 all_goals
  have HQ:=Lib.hid (HF.out w2 ev hM2 hT2)
  clear hS hS2 hM2 hT2 hK2 HF HP
  go_wp2
  exact HQ.out
end
end Go.Proofs.YthkfhfldoniolaaGreatDoor
namespace Go.Proofs.YthkfhfldoniolaaGreatDoor
open Go.RowKit Go.Sort Go.Lib
theorem numeral_below (w:World) (o:Obj) (dk:Array UInt8) (k:Nat):RowKit.Below w.heap.size w ((putRow (fun (b:UInt8)=>Value.int .u8 (b.toNat:Int)) (w.alloc o) w.heap.size 0 dk).drewN k):=by
 have hb:=(RowKit.Below.refl w.heap.size w).alloc (Nat.le_refl _) o
 have h2:RowKit.Below w.heap.size (w.alloc o) (putRow (fun (b:UInt8)=>Value.int .u8 (b.toNat:Int)) (w.alloc o) w.heap.size 0 dk):=⟨rfl,rfl,rfl,by simp,fun i hi=>by
  have:w.heap.size≠i:=by omega
  simp [putRow,mapBlock,Array.getElem?_modify,this]⟩
 exact below_drewN (hb.trans h2) k
set_option maxRecDepth 100000 in
theorem formatUintI_any (u:Nat) (hu64:u<18446744073709551616) (w:World) (hw:NumW w):
 Calls Tryz.prog 156 #[.int .u64 (u:Int),.int .i64 10] w fun e w'=>e= .returned (.string ⟨(Lib.decDigits u).toArray⟩)∧Below w.heap.size w w':=by
 by_cases hs:u<100
 ·have hs':(u:Int)<100:=by omega
  have hwr:IntKind.i64.wrap (u:Int)=(u:Int):=IntWalk.i64_in _ (by omega)
  have HS:Hid (∀W,Calls Tryz.prog 195 #[.int .i64 (u:Int)] W fun e w'=>e= .returned (.string ⟨(Lib.decDigits u).toArray⟩)∧w'=W):=Lib.hid fun W=>Any.internal_strconv_small { Tryz.laysM171 with } u hs W
  go_enter Tryz.func156,Tryz.ntmps156
  go_wp2_with fail
  refine (HS.out _).mono ?_
  rintro e w1 ⟨rfl,rfl⟩
  go_wp2
  go_ret
  exact ⟨rfl,Below.refl _ _⟩
 ·have hu1:1≤u:=by omega
  have hge:¬(u:Int)<100:=by omega
  have hnd20:Lib.nDigits u≤20:=by have:=Lib.numDigits_eq u hu1 hu64;split at this<;>omega
  have hal:Tryz.prog.arrayLen 279=24:=by kernel_rfl
  have hsl1:∀W,(Instr.sliceAt 279 (.pointer (some ⟨w.heap.size,0,none⟩)) none (some (.int .i64 (Lib.nDigits u:Int))) none).run Tryz.prog W= .ok (.slice (some ⟨w.heap.size,0,none⟩) (Lib.nDigits u) 24) W:=fun W=>by
   rw [run_sliceAt_array_h W 279 ⟨w.heap.size,0,none⟩ (by simp [Program.arrayLen,Program.elem]) .i64 (Lib.nDigits u:Int) (by omega) (by rw [hal];omega)]
   go_simp
  have hH0:=Lib.holds_zero0 w 279 (Lib.nDigits u) (by omega)
  have hfmt:=Tryz.internal_strconv_formatBase10 w.heap.size 0 24 u (Array.replicate (Lib.nDigits u) 0) (w.alloc (.cells Lib.zeros24 279)) hH0 (by rw [Array.size_replicate];exact Lib.lt_pow_nDigits u) hu64 (by rw [Array.size_replicate];omega)
  rw [Array.size_replicate] at hfmt
  have HH0:=Lib.hid hH0
  have HFM:=Lib.hid hfmt
  have HND:Hid (∀W,Lib.TabIs Tryz.prog W "internal/strconv.uint64pow10" .u64 Lib.pow10Tab→Calls Tryz.prog 196 #[.int .u64 (u:Int)] W fun e w'=>e= .returned (.int .i64 (Lib.nDigits u:Int))∧w'=W):=Lib.hid fun W hT=>Any.internal_strconv_numDigits { Tryz.laysM171 with } u hu1 hu64 W hT
  have HT:=Lib.hid (Lib.tabIs_alloc hw.pow (.cells Lib.zeros24 279))
  clear hH0 hal hfmt hw
  go_enter Tryz.func156,Tryz.ntmps156
  go_wp2_with fail
  refine (HND.out _ HT.out).mono ?_
  rintro e w1 ⟨rfl,rfl⟩
  go_wp2_with fail
  refine HFM.out.mono ?_
  rintro e w1 ⟨rfl,k,v',dk,rfl,hF⟩
  have hcv:(convert 185 9 (.slice (some ⟨w.heap.size,0,none⟩) (Lib.nDigits u) 24)).run Tryz.prog ((putRow (fun (b:UInt8)=>Value.int .u8 (b.toNat:Int)) (w.alloc (.cells Lib.zeros24 279)) w.heap.size 0 dk).drewN k)= .ok (.string ⟨(Lib.decDigits u).toArray⟩) ((putRow (fun (b:UInt8)=>Value.int .u8 (b.toNat:Int)) (w.alloc (.cells Lib.zeros24 279)) w.heap.size 0 dk).drewN k):=by
   have h:=run_convert_bytes_back (P:=Tryz.prog) ((putRow (fun (b:UInt8)=>Value.int .u8 (b.toNat:Int)) (w.alloc (.cells Lib.zeros24 279)) w.heap.size 0 dk).drewN k) 185 9 5 ⟨w.heap.size,0,none⟩ 24 (Lib.decDigits u) Tryz.underlying185 Tryz.underlying5 Tryz.underlying9 (fun j hj=>by
    rw [Lib.row_is_numeral hF j hj,Lib.add_plain,World.cell?_drewN]
    exact cell?_putRow (fun (b:UInt8)=>Value.int .u8 (b.toNat:Int)) _ w.heap.size 0 _ dk HH0.out (by rw [hF.size,Array.size_replicate]) j (by rw [hF.size];rw [Lib.decDigits_length] at hj;exact hj))
   rw [Lib.decDigits_length] at h
   exact h
  have HB:=Lib.hid (numeral_below w (.cells Lib.zeros24 279) dk k)
  clear hF HH0 HFM HND HT
  go_wp2
  go_ret
  exact ⟨rfl,HB.out⟩
theorem formatUint_any (u:Nat) (hu64:U64 u) (w:World) (hw:NumW w):
 Calls Tryz.prog 106 #[.int .u64 (u:Int),.int .i64 10] w fun e w'=>e= .returned (.string (bt (Lib.decDigits u)))∧RowKit.Below w.heap.size w w':=by
 have H:=Lib.hid (formatUintI_any u (by unfold U64 at hu64;omega) w hw)
 clear hu64 hw
 unfold bt
 go_enter Tryz.func106,Tryz.ntmps106
 go_wp2_with fail
 refine H.out.mono ?_
 rintro e w1 ⟨rfl,hb⟩
 have HB:=Lib.hid hb
 clear hb H
 go_wp2
 go_ret
 exact ⟨rfl,HB.out⟩
end Go.Proofs.YthkfhfldoniolaaGreatDoor
namespace Go.Proofs.YthkfhfldoniolaaGreatDoor
open Go.RowKit
theorem row_zero {w:World} {B n cap:Nat} {A:Option Addr} {e:TypeId} {xs:List Value} (h:w.ownsRow B e 1 (.slice A n cap) n xs) (h0:0<n):∃g,A=some ⟨g,0,none⟩:=by
 obtain ⟨g,c,hv,_,_⟩:=h.form h0
 injection hv with h1 _ _
 exact ⟨g,h1⟩
theorem row_cap {w:World} {B n cap size:Nat} {A:Option Addr} {e:TypeId} {xs:List Value} (h:w.ownsRow B e size (.slice A n cap) n xs):n≤cap:=by
 obtain ⟨A',c,hv,_,h1,_⟩:=zai h
 injection hv with _ _ h3
 omega
theorem text_small {e:Int} {L:List Fl} (hc:zbJ e L=none) (hk:∀x∈L,U64 x.key):(textOf e L).length≤9200:=by
 have h1:=body_len (zdn hc) (fun x hx=>by have:=hk x hx;unfold U64 at this;omega)
 unfold textOf
 rw [List.length_append,List.length_append,ze9 (Crc.sum_lt _)]
 simp
 omega
section
variable {av:Nat→Prop} {ea:Nat→Addr} {w W W':World} {pp lo hi k now:Nat} {p:BPl} {hv wv:Value} {hs:List ByteArray} {s:BS} {x:Wd}
theorem txIn_h {w:World} {A A2:Option Addr} {c c2 n2:Nat} {x:Wd} (h:zcJ w (.agg #[.slice A x.h.length c,.slice A2 n2 c2]) x) {l:List ByteArray} (e:x.h=l) (hl:l.length≤1000000) (hz:∀y∈l,y.size≤1000000):zcr w A c l:=by
 subst e
 obtain ⟨A',c',A2',c2',e,r1,_,hc,_,_⟩:=h.is
 simp only [Value.agg.injEq,Array.mk.injEq,List.cons.injEq,Value.slice.injEq,and_true] at e
 obtain ⟨⟨rfl,-,rfl⟩,-⟩:=e
 exact ⟨r1,hc,by unfold maxLen;omega,fun s hs=>by have:=hz s hs;unfold maxLen;omega⟩
theorem zcw.below {w w':World} {ev:Value} {cd:Nat} (h:zcw ea w ev cd) (hb:Below w.heap.size w w'):zcw ea w' ev cd:=by
 rcases h with h|⟨h1,f,t,a,h2,h3,h4⟩
 ·exact .inl h
 ·refine .inr ⟨h1,f,t,a,h2, ?_,h4⟩
  unfold zd9 at h3 ⊢
  cases hp:f.place with
  |none=>rw [hp] at h3;exact h3
  |some i=>
   rw [hp] at h3
   obtain ⟨a1,b,a2,a3⟩:=h3
   exact ⟨a1,b,a2,a3.below hb a3.lt⟩
theorem make_no (ea:Nat→Addr) {l:List ByteArray} {n:Int} {f:Flt} (hf:zah l n=some f):MakeNo ea l n f:=
 ⟨fun W A c hE hI=>make_bad ea A c l n f W hE hI hf,fun W A c hI=>by have:=zeV l n W A c hI;rw [hf] at this;exact this⟩
theorem PlI.check (h:PlI hs k now s) (hk:k≤1000) (hl:s.fs.2.length≤200):zbJ ((s.epoch:Int)+1) s.fs.2=none:=by
 have he:=h.ep
 have hn:=h.nw
 exact checkOf_ok (by omega) (by omega) hl (fun y hy=>⟨(zal.1 h.ok.hf).2.1 _ (h.fl y hy).1,(h.fl y hy).2.1,by have:=(h.fl y hy).2.2.1;omega⟩) h.rise
theorem PlI.ups (h:PlI hs k now s):(∀y∈ups s.st,y.size≤1000)∧(ups s.st).length≤12:=by
 have hsub:=zfn s.st
 rw [h.st] at hsub
 refine ⟨fun y hy=>by have:=h.small y (hsub.subset hy);omega, ?_⟩
 have h12:=(zal.1 h.ok.hf).1
 exact Nat.le_trans hsub.length_le h12
set_option maxRecDepth 100000 in
theorem act_up (hI:PlI hs k now s) (hM:PlM av ea w W pp lo hi p hv hs s now) (hx:zcJ W wv ⟨[],[]⟩):
 Calls Tryz.prog 102 #[.pointer (some ⟨pp,0,none⟩),wv] W (zae av ea w pp (k+1) (zaJ .up ⟨[],[]⟩ hs s now) W):=by
 obtain ⟨Ha,Hc,A,c,A2,c2,rfl,rfl,hcs⟩:=zbM hM hI hx
 obtain ⟨W1,hW1⟩:∃W1,W1=W.alloc (.cells #[.slice A 0 c,.slice A2 0 c2] 110):=⟨_,rfl⟩
 have hb1:Below W.heap.size W W1:=by rw [hW1];exact (Below.refl _ _).alloc (Nat.le_refl _) _
 have hk1:Blk W1 W.heap.size 110 #[.slice A 0 c,.slice A2 0 c2]:=by rw [hW1];exact Blk.new _ _ _
 have HC:=(hcs W1 hb1).1
 have h1:=hM.below hb1
 have q0:=HC.p0
 have q1:W1.cell? ⟨p.bp,0,none⟩=some (.pointer (some ⟨p.hp,0,none⟩)):=h1.b.b.blk.cell 0
 obtain ⟨us,hus⟩:=hI.ups
 have hst1:s.st.length=hs.length:=by rw [←hI.st];simp [hosts]
 have hst2:hs.length≤12:=(zal.1 hI.ok.hf).1
 have HU:=Lib.hid (up_any W1 h1.b.b.h (by omega))
 have HJ:Hid (∀w2 A3 c3,w2.ownsRow W1.heap.size 9 1 (.slice A3 (ups s.st).length c3) (ups s.st).length (zak (ups s.st))→Calls Tryz.prog 87 #[.slice A3 (ups s.st).length c3,.string ⟨#[32]⟩] w2 fun e w'=>e= .returned (.string (zbA (ups s.st) [32]))∧Below w2.heap.size w2 w'):=Lib.hid fun w2 A3 c3 ho=>
  zdN A3 c3 _ ⟨#[32]⟩ w2 (Reads.zbv ho) (row_zero ho) (row_cap ho) (by omega) us (by decide)
 have HF:Hid (∀w2,Below W1.heap.size W1 w2→zae av ea w pp (k+1) (zaJ .up ⟨[],[]⟩ hs s now) W (.returned (.tuple #[.string (zbA (ups s.st) [32]),.nilIface])) w2):=Lib.hid fun w2 hb2=>
  zck hI.more (h1.below hb2) rfl (za3.of_below (zaa hb1 hb2)) (.inl ⟨rfl,rfl⟩) fun _=>rfl
 unfold zaL at HU
 clear hI hM hx hcs HC h1 us hus hst1 hst2
 rw [hW1] at q0 q1
 generalize zae av ea w pp (k+1) (zaJ .up ⟨[],[]⟩ hs s now) W=PQ at*
 generalize zbA (ups s.st) [32]=r at*
 generalize ups s.st=l at*
 go_enter Tryz.func102,Tryz.ntmps102
 go_wp2_with fail
 rw [←hW1]
 clear hW1
 refine HU.out.mono ?_
 rintro e w2 ⟨A3,c3,rfl,ho,hb2⟩
 have HJ2:=Lib.hid (HJ.out w2 A3 c3 ho)
 have HB2:=Lib.hid hb2
 clear ho hb2 HU HJ
 go_wp2_with fail
 refine HJ2.out.mono ?_
 rintro e w3 ⟨rfl,hb3⟩
 have HQ:=Lib.hid (HF.out w3 (zaa HB2.out hb3))
 clear hb3 HJ2 HF HB2
 go_wp2
 exact HQ.out
set_option maxRecDepth 100000 in
theorem act_export (hI:PlI hs k now s) (hM:PlM av ea w W pp lo hi p hv hs s now) (hk:k≤1000) (hW:zdz w) (hK:zcp ea w) (hx:zcJ W wv ⟨[],[]⟩):
 Calls Tryz.prog 107 #[.pointer (some ⟨pp,0,none⟩),wv] W (zae av ea w pp (k+1) (zaJ .exprt ⟨[],[]⟩ hs s now) W):=by
 obtain ⟨Ha,Hc,A,c,A2,c2,rfl,rfl,hcs⟩:=zbM hM hI hx
 obtain ⟨W1,hW1⟩:∃W1,W1=W.alloc (.cells #[.slice A 0 c,.slice A2 0 c2] 110):=⟨_,rfl⟩
 have hb1:Below W.heap.size W W1:=by rw [hW1];exact (Below.refl _ _).alloc (Nat.le_refl _) _
 have hk1:Blk W1 W.heap.size 110 #[.slice A 0 c,.slice A2 0 c2]:=by rw [hW1];exact Blk.new _ _ _
 have HC:=(hcs W1 hb1).1
 have h1:=hM.below hb1
 have q0:=HC.p0
 have hep:=hI.ep
 have hck:=hI.check hk h1.b.b.f.len
 have hts:=text_small hck (fun y hy=>(hI.fl y hy).2.2.2)
 have hbp:∀b∈[p.bp],b∈p.bs:=by intro b hb;rw [List.mem_singleton] at hb;subst hb;simp [BPl.bs]
 obtain ⟨t,ht⟩:∃t,t=textOf ((s.epoch:Int)+1) s.fs.2:=⟨_,rfl⟩
 have HE:Hid (Calls Tryz.prog 108 #[.pointer (some ⟨p.bp,0,none⟩)] W1 fun e w'=>e= .returned (.tuple #[.string ⟨t.toArray⟩,.nilIface])∧PlM av ea w w' pp lo hi p (.slice Ha hs.length Hc) hs { s with epoch:=s.epoch+1 } now∧za3 w.heap.size W w'):=Lib.hid (by
  rw [ht]
  refine (bn_export h1.b hW hK (fun y hy=>by have:=hI.small _ (hI.fl y hy).1;unfold maxLen;omega) (by omega) hck).mono fun e w' ⟨a,b,tt⟩=>⟨a, ?_⟩
  obtain ⟨u,v⟩:=h1.act b tt hbp
  exact ⟨u,v.from_ hb1⟩)
 have HT:Hid (∀w2,Calls Tryz.prog 110 #[.string ⟨t.toArray⟩,.string ⟨#[10]⟩] w2 fun e w'=>e= .returned (.string ⟨(Lib.trimSuffix t [10]).toArray⟩)∧w'=w2):=Lib.hid fun w2=>
  Tryz.strings_TrimSuffix ⟨t.toArray⟩ ⟨#[10]⟩ w2 (by rw [ht];show (textOf ((s.epoch:Int)+1) s.fs.2).toArray.size≤_;simp;omega)
 have htl:(Lib.trimSuffix t [10]).length≤9200:=by
  rw [←ht] at hts
  unfold Lib.trimSuffix
  split
  ·rw [List.length_take];omega
  ·exact hts
 have HR:Hid (∀w2,Below w.heap.size w w2→Calls Tryz.prog 109 #[.string ⟨(Lib.trimSuffix t [10]).toArray⟩,.string ⟨#[10]⟩,.string ⟨#[59,32]⟩] w2 fun e w'=>e= .returned (.string (zd8 s))∧Below w2.heap.size w2 w'):=Lib.hid fun w2 hb2=>by
  obtain ⟨m,hm⟩:=(hW.below hb2).mx
  have hsz:(⟨(Lib.trimSuffix t [10]).toArray⟩:ByteArray).size≤9200:=by show ((Lib.trimSuffix t [10]).toArray).size≤9200;simpa using htl
  have hcb:=Lib.countB_le ⟨#[10]⟩ (by decide) _ (⟨(Lib.trimSuffix t [10]).toArray⟩:ByteArray) (Nat.le_refl _)
  have h2:=Tryz.strings_ReplaceAll ⟨(Lib.trimSuffix t [10]).toArray⟩ ⟨#[10]⟩ ⟨#[59,32]⟩ m w2 (by omega) hm (by decide) (by
   have:(⟨#[59,32]⟩:ByteArray).size=2:=rfl
   rw [this]
   omega)
  rw [ht] at h2 ⊢
  exact h2
 have HF:Hid (∀w2 w3,PlM av ea w w2 pp lo hi p (.slice Ha hs.length Hc) hs { s with epoch:=s.epoch+1 } now→za3 w.heap.size W w2→Below w2.heap.size w2 w3→zae av ea w pp (k+1) (zaJ .exprt ⟨[],[]⟩ hs s now) W (.returned (.tuple #[.string (zd8 s),.nilIface])) w3):=Lib.hid fun w2 w3 h2 h3 hb3=>
  zck (s:={ s with epoch:=s.epoch+1 }) ⟨hI.ok,hI.st,hI.rise,hI.last,hI.more.nw,by show s.epoch+1≤k+1;omega,hI.more.nd,hI.fl⟩ (h2.below hb3) rfl (h3.zd6 hb3) (.inl ⟨rfl,rfl⟩) fun _=>rfl
 have HBl:Hid (∀w2,PlM av ea w w2 pp lo hi p (.slice Ha hs.length Hc) hs { s with epoch:=s.epoch+1 } now→Below w.heap.size w w2):=Lib.hid fun w2 h=>h.b.w
 clear hI hM hx hcs HC h1 hep hck hts hbp ht htl hW hK
 rw [hW1] at q0
 generalize zae av ea w pp (k+1) (zaJ .exprt ⟨[],[]⟩ hs s now) W=PQ at*
 generalize zd8 s=r at*
 generalize Lib.trimSuffix t [10]=t2 at*
 go_enter Tryz.func107,Tryz.ntmps107
 go_wp2_with fail
 rw [←hW1]
 clear hW1
 refine HE.out.mono ?_
 rintro e w2 ⟨rfl,hM2,hT2⟩
 have HR2:=Lib.hid (HR.out w2 (HBl.out w2 hM2))
 have HF2:=Lib.hid (fun w3=>HF.out w2 w3 hM2 hT2)
 clear hM2 hT2 HE HR HBl HF
 go_wp2_with fail
 refine (HT.out _).mono ?_
 rintro e w3 ⟨rfl,rfl⟩
 go_wp2_with fail
 refine HR2.out.mono ?_
 rintro e w3 ⟨rfl,hb3⟩
 have HQ:=Lib.hid (HF2.out w3 hb3)
 clear hb3 HR2 HF2 HT
 go_wp2
 exact HQ.out
set_option maxRecDepth 100000 in
theorem act_rival (hI:PlI hs k now s) (hM:PlM av ea w W pp lo hi p hv hs s now) (n:Nat) (hn:n≤9999999) (hx:zcJ W wv ⟨[],[n]⟩):
 Calls Tryz.prog 92 #[.pointer (some ⟨pp,0,none⟩),wv] W (zae av ea w pp (k+1) (zaJ .rival ⟨[],[n]⟩ hs s now) W):=by
 obtain ⟨Ha,Hc,A,c,A2,c2,rfl,rfl,hcs⟩:=zbM hM hI hx
 obtain ⟨W1,hW1⟩:∃W1,W1=W.alloc (.cells #[.slice A 0 c,.slice A2 1 c2] 110):=⟨_,rfl⟩
 have hb1:Below W.heap.size W W1:=by rw [hW1];exact (Below.refl _ _).alloc (Nat.le_refl _) _
 have hk1:Blk W1 W.heap.size 110 #[.slice A 0 c,.slice A2 1 c2]:=by rw [hW1];exact Blk.new _ _ _
 have h1:=hM.below (zad hb1)
 have HC:=(hcs W1.drew (zad hb1)).1
 have HC2:=Lib.hid (fun w' hb=>(hcs w' hb).1)
 obtain ⟨ad,hA2,hn0⟩:=HC.n 0 n rfl
 subst hA2
 rw [zd3] at hn0
 have hU:U64 n:=by unfold U64;omega
 have hwn:IntKind.u64.wrap (n:Int)=(n:Int):=by rw [IntKind.wrap_u64];omega
 have hSS:Hid (∀w',Below W1.heap.size W1 w'→w'.cell? ⟨pp,1,none⟩=some (.slice Ha hs.length Hc)∧w'.cell? ⟨W.heap.size,1,none⟩=some (.slice (some ad) 1 c2)∧w'.cell? ad=some (.int .i64 (n:Int))):=Lib.hid fun w' hb=>by
  have h:=(hcs w' (zaa hb1 hb)).1
  obtain ⟨ad',e,h0⟩:=h.n 0 n rfl
  cases e
  rw [zd3] at h0
  exact ⟨h.p1,(hk1.below hb hk1.lt).cell 1,h0⟩
 have hof:zc0 hs=none:=by
  unfold zc0
  rw [if_neg (by have:=hI.ok.h0;show¬hs.length=0;have e:(cS hs).hosts=hs:=rfl;rw [e] at this;omega)]
  exact hI.ok.hf
 have HO:Hid (Calls Tryz.prog 93 #[.slice Ha hs.length Hc,.int .u64 (n:Int)] W1.drew fun e w'=>∃g cap,e= .returned (.tuple #[.slice (some ⟨g,0,none⟩) hs.length cap,.nilIface])∧w'.ownsRow W1.heap.size 9 1 (.slice (some ⟨g,0,none⟩) hs.length cap) hs.length (zak (zbm n hs))∧Below W1.heap.size W1 w'):=Lib.hid (by
  have:=order_any ea Ha Hc hs n W1.drew ⟨h1.b.e.t.e3,h1.b.e.t.c5⟩ ⟨HC.t.r,HC.t.lc,HC.t.lm,HC.t.s⟩ hU
  unfold zcG at this
  rw [hof] at this
  exact this.mono fun e w' ⟨g,cap,a,b,d⟩=>⟨g,cap,a,b,zab d⟩)
 have hlen:(zbm n hs).length=hs.length:=zfB n hs
 have hsm:∀y∈zbm n hs,y.size≤1000:=fun y hy=>by have:=hI.small y (((zbY n hs).1.mem_iff).1 hy);omega
 have h12:=(zal.1 hI.ok.hf).1
 have HJ:Hid (∀w2 g c3,w2.ownsRow W1.heap.size 9 1 (.slice (some ⟨g,0,none⟩) hs.length c3) hs.length (zak (zbm n hs))→Calls Tryz.prog 87 #[.slice (some ⟨g,0,none⟩) hs.length c3,.string ⟨#[32]⟩] w2 fun e w'=>e= .returned (.string (zbA (zbm n hs) [32]))∧Below w2.heap.size w2 w'):=Lib.hid fun w2 g c3 ho=>by
  rw [←hlen] at ho ⊢
  exact zdN _ c3 _ ⟨#[32]⟩ w2 (Reads.zbv ho) (row_zero ho) (row_cap ho) (by rw [hlen];have e:(cS hs).hosts=hs:=rfl;rw [e] at h12;omega) hsm (by decide)
 have HF:Hid (∀w2,Below W1.heap.size W1 w2→zae av ea w pp (k+1) (zaJ .rival ⟨[],[n]⟩ hs s now) W (.returned (.tuple #[.string (zbA (zbm n hs) [32]),.nilIface])) w2):=Lib.hid fun w2 hb2=>
  zck hI.more (hM.below (zaa hb1 hb2)) rfl (za3.of_below (zaa hb1 hb2)) (.inl ⟨rfl,rfl⟩) fun _=>rfl
 have hS0:=hSS.out _ (zad (Below.refl _ _))
 clear hI hM hx hcs HC HC2 h1 hof hlen hsm h12 hU
 generalize zae av ea w pp (k+1) (zaJ .rival ⟨[],[n]⟩ hs s now) W=PQ at*
 generalize zbA (zbm n hs) [32]=r at*
 generalize zak (zbm n hs)=xs at*
 go_enter Tryz.func92,Tryz.ntmps92
 go_wp2_with fail
 rw [←hW1]
 clear hW1
 go_region_held3 (fun w'=>w'.cell? ⟨pp,1,none⟩=some (.slice Ha hs.length Hc)∧w'.cell? ⟨W.heap.size,1,none⟩=some (.slice (some ad) 1 c2)∧w'.cell? ad=some (.int .i64 (n:Int))) (first|exact hS2|exact hS0|go_keep) (first
  |(go_at_call 93
    refine HO.out.mono ?_
    rintro e w2 ⟨g,c3,rfl,ho,hb2⟩
    have hS2:=hSS.out _ hb2))
 all_goals
  have HJ2:=Lib.hid (HJ.out w2 g c3 ho)
  have HB2:=Lib.hid hb2
  clear ho hb2 HO HJ hS0 hSS hS2
  go_wp2_with fail
  refine HJ2.out.mono ?_
  rintro e w3 ⟨rfl,hb3⟩
  have HQ:=Lib.hid (HF.out w3 (zaa HB2.out hb3))
  clear hb3 HJ2 HF HB2
  go_wp2
  exact HQ.out
set_option maxRecDepth 100000 in
theorem act_moves (hI:PlI hs k now s) (hM:PlM av ea w W pp lo hi p hv hs s now) (hW:zdz w) (l:List ByteArray) (hl:l.length≤1000000) (hlz:∀y∈l,y.size≤1000000) (n:Nat) (hn:n≤9999999) (hx:zcJ W wv ⟨l,[n]⟩):
 Calls Tryz.prog 88 #[.pointer (some ⟨pp,0,none⟩),wv] W (zae av ea w pp (k+1) (zaJ .moves ⟨l,[n]⟩ hs s now) W):=by
 obtain ⟨Ha,Hc,A,c,A2,c2,rfl,rfl,hcs⟩:=zbM hM hI hx
 obtain ⟨W1,hW1⟩:∃W1,W1=W.alloc (.cells #[.slice A l.length c,.slice A2 1 c2] 110):=⟨_,rfl⟩
 have hb1:Below W.heap.size W W1:=by rw [hW1];exact (Below.refl _ _).alloc (Nat.le_refl _) _
 have hk1:Blk W1 W.heap.size 110 #[.slice A l.length c,.slice A2 1 c2]:=by rw [hW1];exact Blk.new _ _ _
 have h1:=hM.below (zad hb1)
 have HC:=(hcs W1.drew (zad hb1)).1
 have hTx:=txIn_h (hcs W1.drew (zad hb1)).2 rfl hl hlz
 obtain ⟨ad,hA2,hn0⟩:=HC.n 0 n rfl
 subst hA2
 rw [zd3] at hn0
 have hSS:Hid (∀w',Below W1.heap.size W1 w'→w'.cell? ⟨pp,1,none⟩=some (.slice Ha hs.length Hc)∧w'.cell? ⟨W.heap.size,1,none⟩=some (.slice (some ad) 1 c2)∧w'.cell? ad=some (.int .i64 (n:Int))∧w'.cell? ⟨W.heap.size,0,none⟩=some (.slice A l.length c)):=Lib.hid fun w' hb=>by
  have h:=(hcs w' (zaa hb1 hb)).1
  obtain ⟨ad',e,h0⟩:=h.n 0 n rfl
  cases e
  rw [zd3] at h0
  exact ⟨h.p1,(hk1.below hb hk1.lt).cell 1,h0,(hk1.below hb hk1.lt).cell 0⟩
 have HMv:Hid (∃(m:Nat) (ev:Value),m≤9999999∧(∀w2,Below W1.heap.size W1 w2→zcw ea w2 ev (codeOf (zaz hs l n))→True)∧Calls Tryz.prog 48 #[.slice Ha hs.length Hc,.slice A l.length c,.int .i64 (n:Int)] W1.drew fun e w'=>∃(ev:Value),e= .returned (.tuple #[.int .i64 (m:Int),ev])∧zcw ea w' ev (codeOf (zaz hs l n))∧(codeOf (zaz hs l n)=0→m=zeb hs l n)∧Below W1.heap.size W1 w'):=Lib.hid (by
  unfold zaz
  cases hf1:zah hs (n:Int) with
  |some f=>
   refine ⟨0,.nilIface,by omega,fun _ _ _=>trivial,(moves_bad1 ea Ha A Hc c hs l (n:Int) f W1.drew h1.b.e.t HC.t (make_no ea hf1)).mono fun e w' ⟨t,a,e1,h2,h3⟩=>⟨_,e1,.inr ⟨zaC hf1,f,t,a,rfl,h2,rfl⟩,fun h0=> ?_,zab h3⟩⟩
   have:=zaC hf1
   unfold CdOk at this
   dsimp only [codeOf] at h0
   omega
  |none=>
   cases hf2:zah l (n:Int) with
   |some f=>
    refine ⟨0,.nilIface,by omega,fun _ _ _=>trivial,(moves_bad2 ea Ha A Hc c hs l (n:Int) _ f W1.drew h1.b.e.t HC.t hTx (zcU ea hs n hf1) (make_no ea hf2)).mono fun e w' ⟨t,a,e1,h2,h3⟩=>⟨_,e1,.inr ⟨zaC hf2,f,t,a,rfl,h2,rfl⟩,fun h0=> ?_,zab h3⟩⟩
    have:=zaC hf2
    unfold CdOk at this
    dsimp only [codeOf] at h0
    omega
   |none=>
    have hle:=movN_le hs l (za2 hs n) (za2 l n) (za2 hs n).length
    have hsl:=zbB hs n
    rw [hsl] at hle
    refine ⟨zeb hs l n,.nilIface,by unfold zeb;omega,fun _ _ _=>trivial,(moves_good ea Ha A Hc c hs l (n:Int) _ _ W1.drew h1.b.e.t HC.t hTx (zcU ea hs n hf1) (zcU ea l n hf2)).mono fun e w' ⟨e1,h3⟩=>⟨.nilIface, ?_,.inl ⟨rfl,rfl⟩,fun _=>rfl,zab h3⟩⟩
    rw [e1,hsl]
    rfl)
 obtain ⟨m,_,hm9,_,HMo⟩:=HMv.out
 have HMC:=Lib.hid HMo
 have HI:Hid (∀w2,Below w.heap.size w w2→Calls Tryz.prog 85 #[.int .i64 (m:Int)] w2 fun e w'=>e= .returned (.string ⟨(Lib.itoa (m:Int)).toArray⟩)∧Below w2.heap.size w2 w'):=Lib.hid fun w2 hb=>zeH (m:Int) (by omega) (by omega) w2 (hW.below hb).num
 have HF:Hid (∀w2 w3 ev,Below W1.heap.size W1 w2→zcw ea w2 ev (codeOf (zaz hs l n))→(codeOf (zaz hs l n)=0→m=zeb hs l n)→Below w2.heap.size w2 w3→zae av ea w pp (k+1) (zaJ .moves ⟨l,[n]⟩ hs s now) W (.returned (.tuple #[.string ⟨(Lib.itoa (m:Int)).toArray⟩,ev])) w3):=Lib.hid fun w2 w3 ev hb2 he h0 hb3=>by
  have hM3:=hM.below (zaa hb1 (zaa hb2 hb3))
  have hT:=za3.of_below (B:=w.heap.size) (zaa hb1 (zaa hb2 hb3))
  have he3:=he.below hb3
  have er:zaJ .moves ⟨l,[n]⟩ hs s now=((codeOf (zaz hs l n),(zaJ .moves ⟨l,[n]⟩ hs s now).1.2),⟨some (hs,s),now⟩):=by
   unfold zaJ
   dsimp only
   rw [show ([n]:List Nat).getD 0 0=n from rfl]
   cases zaz hs l n<;>rfl
  rw [er]
  refine zck (s:=s) hI.more hM3 rfl hT he3 fun hc=> ?_
  show _=(zaJ .moves ⟨l,[n]⟩ hs s now).1.2
  rw [h0 hc,Lib.itoa_nonneg]
  unfold zaJ
  dsimp only
  rw [show ([n]:List Nat).getD 0 0=n from rfl]
  cases hmf:zaz hs l n with
  |some f=>
   rw [hmf] at hc
   have:=zd5 hmf
   unfold CdOk at this
   dsimp only [codeOf] at hc
   omega
  |none=>rfl
 have HBl:Hid (∀w2,Below W1.heap.size W1 w2→Below w.heap.size w w2):=Lib.hid fun w2 h=>zaa (hM.below hb1).b.w h
 have hS0:=hSS.out _ (zad (Below.refl _ _))
 clear hI hM hx hcs HC h1 hTx hW HMv HMo hl hlz hm9
 generalize zae av ea w pp (k+1) (zaJ .moves ⟨l,[n]⟩ hs s now) W=PQ at*
 generalize (⟨(Lib.itoa (m:Int)).toArray⟩:ByteArray)=r at*
 generalize codeOf (zaz hs l n)=cd at*
 go_enter Tryz.func88,Tryz.ntmps88
 go_wp2_with fail
 rw [←hW1]
 clear hW1
 go_region_held3 (fun w'=>w'.cell? ⟨pp,1,none⟩=some (.slice Ha hs.length Hc)∧w'.cell? ⟨W.heap.size,1,none⟩=some (.slice (some ad) 1 c2)∧w'.cell? ad=some (.int .i64 (n:Int))∧w'.cell? ⟨W.heap.size,0,none⟩=some (.slice A l.length c)) (first|exact hS2|exact hS0|go_keep) (first
  |(go_at_call 48
    refine HMC.out.mono ?_
    rintro e w2 ⟨ev,rfl,he,h0,hb2⟩
    have hS2:=hSS.out _ hb2))
 all_goals
  have HI2:=Lib.hid (HI.out w2 (HBl.out w2 hb2))
  have HF2:=Lib.hid (fun w3=>HF.out w2 w3 ev hb2 he h0)
  clear hb2 he h0 HI HF HMC hS0 hSS hS2 HBl
  go_wp2_with fail
  refine HI2.out.mono ?_
  rintro e w3 ⟨rfl,hb3⟩
  have HQ:=Lib.hid (HF2.out w3 hb3)
  clear hb3 HI2 HF2
  go_wp2
  exact HQ.out
end
end Go.Proofs.YthkfhfldoniolaaGreatDoor
namespace Go.Proofs.YthkfhfldoniolaaGreatDoor
open Go.RowKit
section
variable {av:Nat→Prop} {ea:Nat→Addr} {w W W':World} {pp lo hi k now:Nat} {p:BPl} {hv wv:Value} {hs:List ByteArray} {s:BS} {x:Wd}
set_option maxRecDepth 100000 in
theorem act_ring (hI:PlI hs k now s) (hM:PlM av ea w W pp lo hi p hv hs s now) (n m:Nat) (hn:n≤9999999) (hm:m≤9999999) (hx:zcJ W wv ⟨[],[n,m]⟩):
 Calls Tryz.prog 89 #[.pointer (some ⟨pp,0,none⟩),wv] W (zae av ea w pp (k+1) (zaJ .ring ⟨[],[n,m]⟩ hs s now) W):=by
 obtain ⟨Ha,Hc,A,c,A2,c2,rfl,rfl,hcs⟩:=zbM hM hI hx
 obtain ⟨W1,hW1⟩:∃W1,W1=W.alloc (.cells #[.slice A 0 c,.slice A2 2 c2] 110):=⟨_,rfl⟩
 have hb1:Below W.heap.size W W1:=by rw [hW1];exact (Below.refl _ _).alloc (Nat.le_refl _) _
 have hk1:Blk W1 W.heap.size 110 #[.slice A 0 c,.slice A2 2 c2]:=by rw [hW1];exact Blk.new _ _ _
 have h1:=hM.below (zad hb1)
 have HC:=(hcs W1.drew (zad hb1)).1
 obtain ⟨ad,hA2,hn0⟩:=HC.n 0 n rfl
 subst hA2
 rw [zd3] at hn0
 have hU:U64 m:=by unfold U64;omega
 have hwm:IntKind.u64.wrap (m:Int)=(m:Int):=by rw [IntKind.wrap_u64];omega
 have hSS:Hid (∀w',Below W1.heap.size W1 w'→w'.cell? ⟨pp,1,none⟩=some (.slice Ha hs.length Hc)∧w'.cell? ⟨W.heap.size,1,none⟩=some (.slice (some ad) 2 c2)∧w'.cell? ad=some (.int .i64 (n:Int))∧w'.cell? ⟨ad.block,ad.off+1,none⟩=some (.int .i64 (m:Int))):=Lib.hid fun w' hb=>by
  have h:=(hcs w' (zaa hb1 hb)).1
  obtain ⟨ad',e,h0⟩:=h.n 0 n rfl
  cases e
  rw [zd3] at h0
  obtain ⟨ad',e,h2⟩:=h.n 1 m rfl
  cases e
  rw [addr1] at h2
  exact ⟨h.p1,(hk1.below hb hk1.lt).cell 1,h0,h2⟩
 have hS0:=hSS.out _ (zad (Below.refl _ _))
 have HPM:Hid (∀w2,Below W1.heap.size W1 w2→PlM av ea w w2 pp lo hi p (.slice Ha hs.length Hc) hs s now∧za3 w.heap.size W w2):=Lib.hid fun w2 hb2=>⟨hM.below (zaa hb1 hb2),za3.of_below (zaa hb1 hb2)⟩
 cases hrf:zaH hs (n:Int) with
 |some f=>
  have HN:=Lib.hid (ringNew_bad ea Ha Hc W1.drew.heap.size hs (n:Int) f W1.drew ⟨h1.b.e.t.e3,h1.b.e.t.c5⟩ HC.t.r (Nat.le_refl _) HC.t.lc HC.t.lm HC.t.s hrf)
  have HF:Hid (∀w2 t a,zd9 ea w2 f t a→Below W1.heap.size W1 w2→zae av ea w pp (k+1) (zaJ .ring ⟨[],[n,m]⟩ hs s now) W (.returned (.tuple #[.string ⟨#[]⟩,.iface t (.pointer (some a))])) w2):=Lib.hid fun w2 t a he hb2=>by
   obtain ⟨u,v⟩:=HPM.out w2 hb2
   have er:zaJ .ring ⟨[],[n,m]⟩ hs s now=((f.code,⟨#[]⟩),⟨some (hs,s),now⟩):=by
    unfold zaJ
    dsimp only
    rw [show ([n,m]:List Nat).getD 0 0=n from rfl,hrf]
   rw [er]
   exact zck hI.more u rfl v (.inr ⟨ringFault_cd hrf,f,t,a,rfl,he,rfl⟩) fun _=>rfl
  unfold RingBad at HN
  clear hM hx hcs HC h1 hrf hU HPM
  generalize zae av ea w pp (k+1) (zaJ .ring ⟨[],[n,m]⟩ hs s now) W=PQ at*
  clear hI
  go_enter Tryz.func89,Tryz.ntmps89
  go_wp2_with fail
  rw [←hW1]
  clear hW1
  go_region_held3 (fun w'=>w'.cell? ⟨pp,1,none⟩=some (.slice Ha hs.length Hc)∧w'.cell? ⟨W.heap.size,1,none⟩=some (.slice (some ad) 2 c2)∧w'.cell? ad=some (.int .i64 (n:Int))∧w'.cell? ⟨ad.block,ad.off+1,none⟩=some (.int .i64 (m:Int))) (first|exact hS2|exact hS0|go_keep) (first
   |(go_at_call 90
     refine HN.out.mono ?_
     rintro e w2 ⟨t,a,rfl,he,hb2⟩
     have hS2:=hSS.out _ (zab hb2)))
  all_goals
   have HQ:=Lib.hid (HF.out w2 t a he (zab hb2))
   clear he hb2 hS0 hSS hS2 HN HF
   go_wp2
   exact HQ.out
 |none=>
  have hr2:=zcB hrf
  have HN:=Lib.hid (ringNew_made ea Ha Hc W1.drew.heap.size hs n W1.drew h1.b.e.t.e3 HC.t.r (Nat.le_refl _) HC.t.lc HC.t.lm HC.t.s hrf)
  obtain ⟨y,hy⟩:∃y,(zcI hs n m)[0]? =some y:=by
   obtain ⟨z,hz⟩:=List.exists_mem_of_length_pos hr2.1
   have h2:=mem_hostsOf (key:=m) hz (show 1≤n by omega)
   obtain ⟨i,hi,_⟩:=List.getElem_of_mem h2
   exact ⟨_,List.getElem?_eq_getElem (show 0<(zcI hs n m).length by omega)⟩
  have HH:Hid (∀w2 rp,RingIs rp hs n w2→Calls Tryz.prog 91 #[.pointer (some ⟨rp,0,none⟩),.int .u64 (m:Int)] w2 (HostPost y w2)):=Lib.hid fun w2 rp h=>ringIs_host h hU hy
  have HF:Hid (∀w2,Below W1.heap.size W1 w2→zae av ea w pp (k+1) (zaJ .ring ⟨[],[n,m]⟩ hs s now) W (.returned (.tuple #[.string y,.nilIface])) w2):=Lib.hid fun w2 hb2=>by
   obtain ⟨u,v⟩:=HPM.out w2 hb2
   have er:zaJ .ring ⟨[],[n,m]⟩ hs s now=((0,y),⟨some (hs,s),now⟩):=by
    unfold zaJ
    dsimp only
    rw [show ([n,m]:List Nat).getD 0 0=n from rfl,show ([n,m]:List Nat).getD 1 0=m from rfl,hrf]
    dsimp only
    rw [List.headD_eq_head?_getD,List.head?_eq_getElem?,hy]
    rfl
   rw [er]
   exact zck hI.more u rfl v (.inl ⟨rfl,rfl⟩) fun _=>rfl
  unfold RingMade at HN
  unfold HostPost at HH
  clear hM hx hcs HC h1 hrf hr2 hU HPM hy
  generalize zae av ea w pp (k+1) (zaJ .ring ⟨[],[n,m]⟩ hs s now) W=PQ at*
  clear hI
  go_enter Tryz.func89,Tryz.ntmps89
  go_wp2_with fail
  rw [←hW1]
  clear hW1
  go_region_held3 (fun w'=>w'.cell? ⟨pp,1,none⟩=some (.slice Ha hs.length Hc)∧w'.cell? ⟨W.heap.size,1,none⟩=some (.slice (some ad) 2 c2)∧w'.cell? ad=some (.int .i64 (n:Int))∧w'.cell? ⟨ad.block,ad.off+1,none⟩=some (.int .i64 (m:Int))) (first|exact hS2|exact hS0|go_keep) (first
   |(go_at_call 90
     refine HN.out.mono ?_
     rintro e w2 ⟨rp,rfl,hR,hb2⟩
     have hS2:=hSS.out _ (zab hb2)))
  all_goals
   have HH2:=Lib.hid (HH.out w2 rp hR)
   have HB2:=Lib.hid (zab hb2)
   obtain ⟨q1,q2,q3,q4⟩:=hS2
   clear hR hb2 hS0 hSS HN HH
   go_wp2_with fail
   refine HH2.out.mono ?_
   rintro e w3 ⟨rfl,hb3⟩
   have HQ:=Lib.hid (HF.out w3 (zaa HB2.out hb3))
   clear hb3 HH2 HF HB2 q1 q2 q3 q4
   go_wp2
   exact HQ.out
set_option maxRecDepth 100000 in
theorem act_table (hI:PlI hs k now s) (hM:PlM av ea w W pp lo hi p hv hs s now) (n:Nat) (hx:zcJ W wv ⟨[],[n]⟩):
 Calls Tryz.prog 86 #[.pointer (some ⟨pp,0,none⟩),wv] W (zae av ea w pp (k+1) (zaJ .table ⟨[],[n]⟩ hs s now) W):=by
 obtain ⟨Ha,Hc,A,c,A2,c2,rfl,rfl,hcs⟩:=zbM hM hI hx
 obtain ⟨W1,hW1⟩:∃W1,W1=W.alloc (.cells #[.slice A 0 c,.slice A2 1 c2] 110):=⟨_,rfl⟩
 have hb1:Below W.heap.size W W1:=by rw [hW1];exact (Below.refl _ _).alloc (Nat.le_refl _) _
 have hk1:Blk W1 W.heap.size 110 #[.slice A 0 c,.slice A2 1 c2]:=by rw [hW1];exact Blk.new _ _ _
 obtain ⟨i0,hi0,hz0,hz1,hz2⟩:=info_parts zc6
 have h1:=hM.below (zad hb1)
 have HC:=(hcs W1.drew (zad hb1)).1
 obtain ⟨ad,hA2,hn0⟩:=HC.n 0 n rfl
 subst hA2
 rw [zd3] at hn0
 have hSS:Hid (∀w',Below W1.heap.size W1 w'→w'.cell? ⟨pp,1,none⟩=some (.slice Ha hs.length Hc)∧w'.cell? ⟨W.heap.size,1,none⟩=some (.slice (some ad) 1 c2)∧w'.cell? ad=some (.int .i64 (n:Int))):=Lib.hid fun w' hb=>by
  have h:=(hcs w' (zaa hb1 hb)).1
  obtain ⟨ad',e,h0⟩:=h.n 0 n rfl
  cases e
  rw [zd3] at h0
  exact ⟨h.p1,(hk1.below hb hk1.lt).cell 1,h0⟩
 have hS0:=hSS.out _ (zad (Below.refl _ _))
 have HPM:Hid (∀w2,Below W1.heap.size W1 w2→PlM av ea w w2 pp lo hi p (.slice Ha hs.length Hc) hs s now∧za3 w.heap.size W w2):=Lib.hid fun w2 hb2=>⟨hM.below (zaa hb1 hb2),za3.of_below (zaa hb1 hb2)⟩
 cases htf:zah hs (n:Int) with
 |some f=>
  have HN:=Lib.hid (make_bad ea Ha Hc hs (n:Int) f W1.drew h1.b.e.t HC.t htf)
  have HF:Hid (∀w2 t a r,zd9 ea w2 f t a→Below W1.heap.size W1 w2→zae av ea w pp (k+1) (zaJ .table ⟨[],[n]⟩ hs s now) W (.returned (.tuple #[.string r,.iface t (.pointer (some a))])) w2):=Lib.hid fun w2 t a r he hb2=>by
   obtain ⟨u,v⟩:=HPM.out w2 hb2
   have er:zaJ .table ⟨[],[n]⟩ hs s now=((f.code,⟨#[]⟩),⟨some (hs,s),now⟩):=by
    unfold zaJ
    dsimp only
    rw [show ([n]:List Nat).getD 0 0=n from rfl,htf]
   rw [er]
   refine zck hI.more u rfl v (.inr ⟨zaC htf,f,t,a,rfl,he,rfl⟩) fun h0=> ?_
   have:=zaC htf
   unfold CdOk at this
   dsimp only at h0
   omega
  have HJ:=Lib.hid (fun w2=>zdN none 0 [] ⟨#[32]⟩ w2 Reads.none_ (fun h=>absurd h (by simp)) (Nat.le_refl _) (by decide) (fun x hx=>by cases hx) (by decide))
  have HEr:Hid (∀w2 w3 t a,zd9 ea w2 f t a→Below w2.heap.size w2 w3→zd9 ea w3 f t a):=Lib.hid fun w2 w3 t a he hb=>by
   unfold zd9 at he ⊢
   cases hp:f.place with
   |none=>rw [hp] at he;exact he
   |some i=>
    rw [hp] at he
    obtain ⟨a1,b,a2,a3⟩:=he
    exact ⟨a1,b,a2,a3.below hb a3.lt⟩
  unfold zcC at HN
  clear hM hx hcs HC h1 htf HPM hI
  generalize zae av ea w pp (k+1) (zaJ .table ⟨[],[n]⟩ hs s now) W=PQ at*
  go_enter Tryz.func86,Tryz.ntmps86
  go_wp2_with fail
  rw [←hW1]
  clear hW1
  go_region_held3 (fun w'=>w'.cell? ⟨pp,1,none⟩=some (.slice Ha hs.length Hc)∧w'.cell? ⟨W.heap.size,1,none⟩=some (.slice (some ad) 1 c2)∧w'.cell? ad=some (.int .i64 (n:Int))) (first|exact hS2|exact hS0|go_keep) (first
   |(go_at_call 73
     refine HN.out.mono ?_
     rintro e w2 ⟨t,a,rfl,he,hb2⟩
     have hS2:=hSS.out _ (zab hb2)))
  all_goals
   have HE2:=Lib.hid he
   have HB2:=Lib.hid (zab hb2)
   clear he hb2 hS0 hSS hS2 HN
   go_wp2_with fail
   go_loopw [8,25] (fun ov iv wr=>ov= .slice none 0 0∧iv= .int .i64 0∧wr=w2) (fun _ _ _=>0)
   case atStart=>exact ⟨rfl,rfl,rfl⟩
   case round=>
    obtain ⟨rfl,rfl,rfl⟩:=hrel
    go_wp2_with fail
    refine (HJ.out _).mono ?_
    rintro e w3 ⟨rfl,hb3⟩
    have HQ:=Lib.hid (HF.out w3 t a (zbA [] [32]) (HEr.out _ _ _ _ HE2.out hb3) (zaa HB2.out hb3))
    clear hb3 HJ HF HB2 HEr
    go_wp2
    exact HQ.out
 |none=>
  have hY:=zcU ea hs n htf
  have hYl:=zbB hs n
  obtain ⟨_,_,n5,hn5,hn6,hn7,_⟩:=zaG htf
  have hn503:n≤503:=by omega
  have hlen:((za2 hs n).map (zbT hs)).length=n:=by rw [List.length_map,hYl]
  have hat:∀i (hi:i<n),∃j:Nat,(za2 hs n)[i]? =some (j:Int)∧∃hj:j<hs.length,((za2 hs n).map (zbT hs))[i]? =some hs[j]:=fun i hi=>by
   obtain ⟨j,e1,e2⟩:=hY.slot i (by rw [hYl];exact hi)
   refine ⟨j,e1,e2, ?_⟩
   rw [List.getElem?_map,e1]
   simp [zbT,e2]
  have HN:=Lib.hid (hY.make W1.drew Ha Hc h1.b.e.t HC.t)
  have hsm:∀y∈(za2 hs n).map (zbT hs),y.size≤1000:=fun y hy=>by
   obtain ⟨i,hi,rfl⟩:=List.getElem_of_mem hy
   rw [hlen] at hi
   obtain ⟨j,_,hj,e⟩:=hat i hi
   have h2:=List.getElem?_eq_getElem (show i<((za2 hs n).map (zbT hs)).length by rw [hlen];exact hi)
   rw [h2] at e
   have:=hI.small _ (List.getElem_mem hj)
   rw [Option.some.inj e]
   omega
  obtain ⟨xs,hxs⟩:∃xs,xs=(za2 hs n).map (zbT hs):=⟨_,rfl⟩
  rw [←hxs] at hat hsm hlen
  have HF:Hid (∀w2,Below W1.heap.size W1 w2→zae av ea w pp (k+1) (zaJ .table ⟨[],[n]⟩ hs s now) W (.returned (.tuple #[.string (zbA xs [32]),.nilIface])) w2):=Lib.hid fun w2 hb2=>by
   obtain ⟨u,v⟩:=HPM.out w2 hb2
   have er:zaJ .table ⟨[],[n]⟩ hs s now=((0,zbA xs [32]),⟨some (hs,s),now⟩):=by
    unfold zaJ
    dsimp only
    rw [show ([n]:List Nat).getD 0 0=n from rfl,htf,hxs]
   rw [er]
   exact zck hI.more u rfl v (.inl ⟨rfl,rfl⟩) fun _=>rfl
  have HJ:Hid (∀w2 B A3 c3,w2.ownsRow B 9 1 (.slice A3 n c3) n (zak xs)→Calls Tryz.prog 87 #[.slice A3 n c3,.string ⟨#[32]⟩] w2 fun e w'=>e= .returned (.string (zbA xs [32]))∧Below w2.heap.size w2 w'):=Lib.hid fun w2 B A3 c3 ho=>by
   rw [←hlen] at ho ⊢
   exact zdN A3 c3 xs ⟨#[32]⟩ w2 (Reads.zbv ho) (row_zero ho) (row_cap ho) (by omega) hsm (by decide)
  have HRd:Hid (∀w2 A3,Reads w2 w2.heap.size 1 A3 n ((za2 hs n).map intV)→Below W1.heap.size W1 w2→∀w',Below w2.heap.size w2 w'→∀i,i<n→∃ad3 ah,∃j:Nat,∃hj:j<hs.length,A3=some ad3∧Ha=some ah∧w'.cell? (ad3.add i)=some (.int .i64 (j:Int))∧w'.cell? ⟨pp,1,none⟩=some (.slice Ha hs.length Hc)∧w'.cell? (ah.add j)=some (.string hs[j])∧xs[i]? =some hs[j]):=Lib.hid fun w2 A3 hr hb2 w' hb i hi=>by
   obtain ⟨j,e1,hj,e2⟩:=hat i hi
   obtain ⟨ad3,u,hA,_,hu,hc⟩:=((hr.below hb).more hb.size).at_ hi
   have h:=(hcs w' (zaa hb1 (zaa hb2 hb))).1
   obtain ⟨ah,u2,hA2,_,hu2,hc2⟩:=h.t.r.at_ hj
   refine ⟨ad3,ah,j,hj,hA,hA2, ?_,h.p1, ?_,e2⟩
   ·rw [hc,←hu,List.getElem?_map,e1]
    rfl
   ·rw [hc2,←hu2]
    simp [zak,hj]
  have HLn:=Lib.hid hlen
  unfold IntsGood at HN
  rw [hYl] at HN
  clear hM hx hcs HC h1 htf HPM hI hY hYl hat hsm hxs hlen hn5 hn6 hn7
  generalize zae av ea w pp (k+1) (zaJ .table ⟨[],[n]⟩ hs s now) W=PQ at*
  generalize zbA xs [32]=res at*
  go_enter Tryz.func86,Tryz.ntmps86
  go_wp2_with fail
  rw [←hW1]
  clear hW1
  go_region_held3 (fun w'=>w'.cell? ⟨pp,1,none⟩=some (.slice Ha hs.length Hc)∧w'.cell? ⟨W.heap.size,1,none⟩=some (.slice (some ad) 1 c2)∧w'.cell? ad=some (.int .i64 (n:Int))) (first|exact hS2|exact hS0|go_keep) (first
   |(go_at_call 73
     refine HN.out.mono ?_
     rintro e w2 ⟨A3,c3,rfl,hr3,hb2⟩
     have hS2:=hSS.out _ (zab hb2)))
  all_goals
   have HRd2:=Lib.hid (HRd.out w2 A3 hr3 (zab hb2))
   have HB2:=Lib.hid (zab hb2)
   clear hr3 hb2 hS0 hSS hS2 HN HRd
   go_wp2_with fail
   go_loopw [8,25] (fun ov iv wr=>∃(i:Nat) (A':Option Addr) (cap:Nat),i≤n∧ov= .slice A' i cap∧iv= .int .i64 (i:Int)∧Hid (wr.ownsRow w2.heap.size 9 1 (.slice A' i cap) i (zak (xs.take i)))∧Hid (Below w2.heap.size w2 wr)) (fun _ iv _=>n+1- (intOf iv).toNat)
   case atStart=>exact ⟨0,none,0,Nat.zero_le _,rfl,rfl,Lib.hid (World.ownsRow_nil _ _ _ _),Lib.hid (Below.refl _ _)⟩
   case round=>
    obtain ⟨i,A',cap,hile,rfl,rfl,hR,hB⟩:=hrel
    by_cases hil:i<n
    ·have hil2:(i:Int)<n:=by omega
     obtain ⟨ad3,ah,j,hj,rfl,rfl,c0,c1,c2',hxi⟩:=HRd2.out wr hB.out i hil
     have hj0:(0:Int)≤(j:Int):=by omega
     have hj1:(j:Int)<(hs.length:Int):=by omega
     have hbA:=(Below.refl wr.heap.size wr).alloc (Nat.le_refl _) (.cells #[.string hs[j]] 9)
     have HRW:=Lib.hid (own_below hR.out hbA)
     have HNW:Hid (Reads (wr.alloc (.cells #[.string hs[j]] 9)) (wr.alloc (.cells #[.string hs[j]] 9)).heap.size 1 (some ⟨wr.heap.size,0,none⟩) 1 [.string hs[j]]):=Lib.hid (zbq (Blk.new wr 9 [Value.string hs[j]].toArray))
     have HSZ:Hid (w2.heap.size≤(wr.alloc (.cells #[.string hs[j]] 9)).heap.size):=Lib.hid (Nat.le_trans hB.out.size hbA.size)
     have HAP:Hid (∀v' W',W'.ownsRow w2.heap.size 9 1 v' (i+1) (zak (xs.take i)++[.string hs[j]])→(wr.alloc (.cells #[.string hs[j]] 9)).grownBy W' (Value.slice A' i cap).ownBlock→∃A2 cap2,v'= .slice A2 (i+1) cap2∧Hid (W'.ownsRow w2.heap.size 9 1 (.slice A2 (i+1) cap2) (i+1) (zak (xs.take (i+1))))∧Hid (Below w2.heap.size w2 W')):=Lib.hid fun v' W' g1 g2=>by
      have e:zak (xs.take (i+1))=zak (xs.take i)++[.string hs[j]]:=by
       rw [List.take_add_one,hxi]
       simp [zak]
      rw [←e] at g1
      obtain ⟨A2,cap2,rfl,_⟩:=zai g1
      exact ⟨A2,cap2,rfl,Lib.hid g1,Lib.hid (za9 (zaa hB.out hbA) HRW.out g2)⟩
     clear hbA hR hB hxi
     generalize hs[j]=y at*
     generalize zak (xs.take i)=ys at*
     go_wp2_with (first
      |(at_builtin
        go_must (refine zac _ rfl (.tmp 29) (.tmp 37) _ rfl w2.heap.size 9 i0 _ 1 16 Tryz.underlying24 hi0 hz0 hz1 hz2 rfl (by omega) (.slice A' i cap) i ys rfl HRW.out _ (some ⟨wr.heap.size,0,none⟩) 1 1 [.string y] rfl HNW.out (by simp [Value.oneCell']) (by simp only [maxLen];omega) (by omega) HSZ.out ?_)
        intro v1 w5 hown1 hg1 _
        obtain ⟨A5,cap5,hv5,HR5,HB5⟩:=HAP.out _ _ hown1 hg1
        subst hv5
        clear hown1 hg1))
     go_roundw
     case rel=>exact ⟨i+1,A5,cap5,by omega,rfl,by go_num,HR5,HB5⟩
     case measure=>simp [intOf];omega
    ·obtain rfl:i=n:=by omega
     have hge:¬(i:Int)<i:=by omega
     have HJ2:=Lib.hid (HJ.out wr w2.heap.size A' cap (by
      have h:=hR.out
      rwa [List.take_of_length_le (by have:=HLn.out;omega)] at h))
     have HB3:=Lib.hid (zaa HB2.out hB.out)
     clear hR hB HJ HRd2 HB2
     go_wp2_with fail
     refine HJ2.out.mono ?_
     rintro e w3 ⟨rfl,hb3⟩
     have HQ:=Lib.hid (HF.out w3 (zaa HB3.out hb3))
     clear hb3 HJ2 HF HB3
     go_wp2
     exact HQ.out
end
end Go.Proofs.YthkfhfldoniolaaGreatDoor
namespace Go.Proofs.YthkfhfldoniolaaGreatDoor
open Go.RowKit
section
variable {av:Nat→Prop} {ea:Nat→Addr} {w W W':World} {pp lo hi k now:Nat} {p:BPl} {hv wv:Value} {hs:List ByteArray} {s:BS} {x:Wd}
theorem row_zero3 {w:World} {B n cap:Nat} {A:Option Addr} {e:TypeId} {xs:List Value} (h:w.ownsRow B e 3 (.slice A n cap) n xs) (h0:0<n):∃g,A=some ⟨g,0,none⟩:=by
 obtain ⟨g,c,hv,_,_⟩:=h.form h0
 injection hv with h1 _ _
 exact ⟨g,h1⟩
theorem zb9 {n:Nat} (h:U64 n):(Lib.decDigits n).length≤20:=by
 unfold U64 at h
 exact dec_len 19 n (by omega)
theorem bt_size (l:List UInt8):(bt l).size=l.length:=by
 show l.toArray.size=l.length
 simp
theorem line_size {x:Fl} (h:U64 x.key) (hz:x.host.size≤12):(zaq x).size≤40:=by
 have h1:=zb9 h
 have e:(zaq x).size=(Lib.decDigits x.key++32::x.host.data.toList).length:=by
  unfold zaq
  exact bt_size _
 have e2:x.host.data.toList.length=x.host.size:=by simp
 rw [e,List.length_append,List.length_cons]
 omega
set_option maxRecDepth 100000 in
theorem act_flows (hI:PlI hs k now s) (hM:PlM av ea w W pp lo hi p hv hs s now) (hW:zdz w) (hx:zcJ W wv ⟨[],[]⟩):
 Calls Tryz.prog 104 #[.pointer (some ⟨pp,0,none⟩),wv] W (zae av ea w pp (k+1) (zaJ .flows ⟨[],[]⟩ hs s now) W):=by
 obtain ⟨Ha,Hc,A,c,A2,c2,rfl,rfl,hcs⟩:=zbM hM hI hx
 obtain ⟨W1,hW1⟩:∃W1,W1=W.alloc (.cells #[.slice A 0 c,.slice A2 0 c2] 110):=⟨_,rfl⟩
 have hb1:Below W.heap.size W W1:=by rw [hW1];exact (Below.refl _ _).alloc (Nat.le_refl _) _
 have hk1:Blk W1 W.heap.size 110 #[.slice A 0 c,.slice A2 0 c2]:=by rw [hW1];exact Blk.new _ _ _
 obtain ⟨i0,hi0,hz0,hz1,hz2⟩:=info_parts zc6
 have HC:=(hcs W1 hb1).1
 have h1:=hM.below hb1
 have q0:=HC.p0
 have hn200:s.fs.2.length≤200:=h1.b.b.f.len
 have HN:=Lib.hid (flowsB_any W1 h1.b.b)
 have hsm:∀y∈s.fs.2.map zaq,y.size≤1000:=fun y hy=>by
  obtain ⟨z,hz,rfl⟩:=List.mem_map.1 hy
  have h2:=hI.fl z hz
  have:=line_size h2.2.2.2 (hI.small _ h2.1)
  omega
 have hok:∀i (hi:i<s.fs.2.length),U64 s.fs.2[i].key∧s.fs.2[i].host.size≤12:=fun i hi=>by
  have h2:=hI.fl _ (List.getElem_mem hi)
  exact ⟨h2.2.2.2,hI.small _ h2.1⟩
 have HOk:=Lib.hid hok
 have HF:Hid (∀w2,Below W1.heap.size W1 w2→zae av ea w pp (k+1) (zaJ .flows ⟨[],[]⟩ hs s now) W (.returned (.tuple #[.string (zbA (s.fs.2.map zaq) [44,32]),.nilIface])) w2):=Lib.hid fun w2 hb2=>
  zck hI.more (h1.below hb2) rfl (za3.of_below (zaa hb1 hb2)) (.inl ⟨rfl,rfl⟩) fun _=>rfl
 have HJ:Hid (∀w2 B A3 c3,w2.ownsRow B 9 1 (.slice A3 s.fs.2.length c3) s.fs.2.length (zak (s.fs.2.map zaq))→Calls Tryz.prog 87 #[.slice A3 s.fs.2.length c3,.string ⟨#[44,32]⟩] w2 fun e w'=>e= .returned (.string (zbA (s.fs.2.map zaq) [44,32]))∧Below w2.heap.size w2 w'):=Lib.hid fun w2 B A3 c3 ho=>by
  have hlen:(s.fs.2.map zaq).length=s.fs.2.length:=List.length_map _
  rw [←hlen] at ho ⊢
  exact zdN A3 c3 _ ⟨#[44,32]⟩ w2 (Reads.zbv ho) (row_zero ho) (row_cap ho) (by omega) hsm (by decide)
 have HU:Hid (∀(u:Nat) w2,U64 u→Below W1.heap.size W1 w2→Calls Tryz.prog 106 #[.int .u64 (u:Int),.int .i64 10] w2 fun e w'=>e= .returned (.string (bt (Lib.decDigits u)))∧Below w2.heap.size w2 w'):=Lib.hid fun u w2 hu hb=>formatUint_any u hu w2 ((hW.below (zaa h1.b.w hb)).num)
 unfold zd2 at HN
 clear hI hM hx hcs HC h1 hsm hW hok
 rw [hW1] at q0
 generalize zae av ea w pp (k+1) (zaJ .flows ⟨[],[]⟩ hs s now) W=PQ at*
 generalize zbA (s.fs.2.map zaq) [44,32]=res at*
 generalize s.fs.2=L at*
 go_enter Tryz.func104,Tryz.ntmps104
 go_wp2_with fail
 rw [←hW1]
 clear hW1
 refine HN.out.mono ?_
 rintro e w2 ⟨v,rfl,ho,hb2⟩
 obtain ⟨A3,c3,rfl,hr3,_⟩:=zai ho
 have HR3:=Lib.hid (fun w' (hb:Below w2.heap.size w2 w')=>(hr3.below hb).more hb.size)
 have HZ3:=Lib.hid (fun h0=>row_zero3 ho h0)
 have HB2:=Lib.hid hb2
 clear hr3 hb2 ho HN
 go_wp2_with fail
 go_loopw [6,15] (fun ov iv wr=>∃(i:Nat) (A':Option Addr) (cap:Nat),i≤L.length∧ov= .slice A' i cap∧iv= .int .i64 (i:Int)∧Hid (wr.ownsRow w2.heap.size 9 1 (.slice A' i cap) i (zak ((L.take i).map zaq)))∧Hid (Below w2.heap.size w2 wr)) (fun _ iv _=>L.length+1- (intOf iv).toNat)
 case atStart=>exact ⟨0,none,0,Nat.zero_le _,rfl,rfl,Lib.hid (World.ownsRow_nil _ _ _ _),Lib.hid (Below.refl _ _)⟩
 case round=>
  obtain ⟨i,A',cap,hile,rfl,rfl,hR,hB⟩:=hrel
  by_cases hil:i<L.length
  ·obtain ⟨g,rfl⟩:=HZ3.out (by omega)
   have hil2:(i:Int)<L.length:=by omega
   obtain ⟨a0,a1,a2⟩:=cells3_reads (HR3.out wr hB.out) hil
   obtain ⟨hu,hz12⟩:=HOk.out i hil
   obtain ⟨y,hy⟩:∃y,y=L[i]:=⟨_,rfl⟩
   have hti:(L.take (i+1)).map zaq=(L.take i).map zaq++[zaq y]:=by
    rw [List.take_succ_eq_append_getElem hil,List.map_append,hy]
    rfl
   rw [←hy] at a0 a1 a2 hu hz12
   obtain ⟨d,hd⟩:∃d,d=bt (Lib.decDigits y.key):=⟨_,rfl⟩
   have hds:d.size≤20:=by
    have:=zb9 hu
    rw [hd,bt_size]
    exact this
   have hline:d++⟨#[32]⟩++y.host=zaq y:=by
    rw [hd]
    apply zft
    unfold zaq bt
    simp
   have s1:¬9223372036854775807<d.size+1:=by omega
   have s2:¬9223372036854775807<d.size+1+y.host.size:=by omega
   obtain ⟨wF,hwF⟩:∃wF,wF=wr.alloc (.cells #[.int .u64 (y.key:Int),.string y.host,.int .i64 y.til] 72):=⟨_,rfl⟩
   have hbF:Below wr.heap.size wr wF:=by rw [hwF];exact (Below.refl _ _).alloc (Nat.le_refl _) _
   have hkF:Blk wF wr.heap.size 72 #[.int .u64 (y.key:Int),.string y.host,.int .i64 y.til]:=by rw [hwF];exact Blk.new _ _ _
   have HFU:Hid (Calls Tryz.prog 106 #[.int .u64 (y.key:Int),.int .i64 10] wF.drew fun e w'=>e= .returned (.string d)∧Below wF.heap.size wF w'):=Lib.hid (by
    rw [hd]
    exact (HU.out y.key wF.drew hu (zad (zaa HB2.out (zaa hB.out hbF)))).mono fun e w' ⟨a,b⟩=>⟨a,zab b⟩)
   have HST:Hid (∀w4,Below wF.heap.size wF w4→w4.cell? ⟨wr.heap.size,0,none⟩=some (.int .u64 (y.key:Int))∧w4.cell? ⟨wr.heap.size,1,none⟩=some (.string y.host)):=Lib.hid fun w4 hb=>⟨(hkF.below hb hkF.lt).cell 0,(hkF.below hb hkF.lt).cell 1⟩
   have HAP:Hid (∀w4,Below wF.heap.size wF w4→(w4.alloc (.cells #[.string (zaq y)] 9)).ownsRow w2.heap.size 9 1 (.slice A' i cap) i (zak ((L.take i).map zaq))∧w2.heap.size≤(w4.alloc (.cells #[.string (zaq y)] 9)).heap.size∧Reads (w4.alloc (.cells #[.string (zaq y)] 9)) (w4.alloc (.cells #[.string (zaq y)] 9)).heap.size 1 (some ⟨w4.heap.size,0,none⟩) 1 [.string (zaq y)]∧
    ∀v' W',W'.ownsRow w2.heap.size 9 1 v' (i+1) (zak ((L.take i).map zaq)++[.string (zaq y)])→(w4.alloc (.cells #[.string (zaq y)] 9)).grownBy W' (Value.slice A' i cap).ownBlock→∃A2 cap2,v'= .slice A2 (i+1) cap2∧Hid (W'.ownsRow w2.heap.size 9 1 (.slice A2 (i+1) cap2) (i+1) (zak ((L.take (i+1)).map zaq)))∧Hid (Below w2.heap.size w2 W')∧W'.cell? ⟨wr.heap.size,0,none⟩=some (.int .u64 (y.key:Int))∧W'.cell? ⟨wr.heap.size,1,none⟩=some (.string y.host)):=Lib.hid fun w4 hb=>by
    have hbA:=zaa hbF (zaa hb ((Below.refl w4.heap.size w4).alloc (Nat.le_refl _) (.cells #[.string (zaq y)] 9)))
    have hRW:=own_below hR.out hbA
    have hkA:=hkF.below (zaa hb ((Below.refl w4.heap.size w4).alloc (Nat.le_refl _) (.cells #[.string (zaq y)] 9))) hkF.lt
    refine ⟨hRW,Nat.le_trans hB.out.size hbA.size,zbq (Blk.new w4 9 [Value.string (zaq y)].toArray),fun v' W' g1 g2=> ?_⟩
    have e:zak ((L.take (i+1)).map zaq)=zak ((L.take i).map zaq)++[.string (zaq y)]:=by
     rw [hti]
     simp [zak]
    rw [←e] at g1
    obtain ⟨A2,cap2,rfl,_⟩:=zai g1
    have hkW:Blk W' wr.heap.size 72 #[.int .u64 (y.key:Int),.string y.host,.int .i64 y.til]:=hkA.grown g2 fun he=>by
     obtain ⟨cs,hC⟩:=zbE hRW he.symm
     exact hkA.ne_ hC (by decide) rfl
    exact ⟨A2,cap2,rfl,Lib.hid g1,Lib.hid (za9 (zaa hB.out hbA) hRW g2),hkW.cell 0,hkW.cell 1⟩
   have hS0:=HST.out wF.drew (zad (Below.refl _ _))
   clear hti hy hR hB hd hds hu hz12 hbF hkF HU
   generalize zak ((L.take i).map zaq)=ys at*
   go_wp2_with fail
   rw [←hwF]
   clear hwF
   go_region_law (first
    |(go_simp
      go_at_call 106
      refine HFU.out.mono ?_
      rintro e w4 ⟨rfl,hb4⟩
      obtain ⟨c0,c1⟩:=HST.out w4 hb4
      obtain ⟨p1,p2,p3,p4⟩:=HAP.out w4 hb4
      have HP1:=Lib.hid p1
      have HP2:=Lib.hid p2
      have HP3:=Lib.hid p3
      have HP4:=Lib.hid p4
      clear p1 p2 p3 p4 hb4)
    |(refine zbh _ rfl (.tmp 19) (.tmp 27) _ rfl w2.heap.size 9 i0 _ 1 16 Tryz.underlying24 hi0 hz0 hz1 hz2 rfl (by omega) (.slice A' i cap) i ys (by simp [Act.eval]) HP1.out _ (some ⟨w4.heap.size,0,none⟩) 1 1 [.string (zaq y)] (by simp [Act.eval]) HP3.out (by simp [Value.oneCell']) (by simp only [maxLen];omega) (by omega) HP2.out ?_
      intro v5 w5 hown5 hgrow5 _
      obtain ⟨A5,cap5,hv5,HR5,HB5,c5,c6⟩:=HP4.out v5 w5 hown5 hgrow5
      subst hv5
      clear hown5 hgrow5))
   all_goals
    clear c0 c1 c5 c6 a0 a1 a2 s1 s2 hline
    go_wp2
    go_roundw
    case rel=>exact ⟨i+1,A5,cap5,by omega,rfl,by go_num,HR5,HB5⟩
    case measure=>simp [intOf];omega
  ·obtain rfl:i=L.length:=by omega
   have hge:¬(L.length:Int)<L.length:=by omega
   have HJ2:=Lib.hid (HJ.out wr w2.heap.size A' cap (by
    have h:=hR.out
    rwa [List.take_length] at h))
   have HB3:=Lib.hid (zaa HB2.out hB.out)
   clear hR hB HJ HB2 HR3 HZ3 HU HOk
   go_wp2_with fail
   refine HJ2.out.mono ?_
   rintro e w3 ⟨rfl,hb3⟩
   have HQ:=Lib.hid (HF.out w3 (zaa HB3.out hb3))
   clear hb3 HJ2 HF HB3
   go_wp2
   exact HQ.out
def JmpPost (ea:Nat→Addr) (r:Nat×ByteArray) (W:World) (e:Ending) (w':World):Prop:=∃t ev,e= .returned (.tuple #[.string t,ev])∧zcw ea w' ev r.1∧(r.1=0→t=r.2)∧Below W.heap.size W w'
set_option maxRecDepth 100000 in
theorem jumps_any (hE:zbO ea W) (hW:zdz W) (n m:Nat) (hn:n≤9999999) (hm:m≤9999999) (hx:zcJ W wv ⟨[],[n,m]⟩):
 Calls Tryz.prog 57 #[wv] W (JmpPost ea (zdv ⟨[],[n,m]⟩) W):=by
 obtain ⟨A,c,A2,c2,rfl,_,r2,_,_,_⟩:=hx.is
 obtain ⟨W1,hW1⟩:∃W1,W1=W.alloc (.cells #[.slice A 0 c,.slice A2 2 c2] 110):=⟨_,rfl⟩
 have hb1:Below W.heap.size W W1:=by rw [hW1];exact (Below.refl _ _).alloc (Nat.le_refl _) _
 have hk1:Blk W1 W.heap.size 110 #[.slice A 0 c,.slice A2 2 c2]:=by rw [hW1];exact Blk.new _ _ _
 have hU:U64 n:=by unfold U64;omega
 have hwn:IntKind.u64.wrap (n:Int)=(n:Int):=by rw [IntKind.wrap_u64];omega
 obtain ⟨ad,_,rfl,_,_,_⟩:=r2.at_ (k:=0) (by simp)
 have hSS:Hid (∀w',Below W1.heap.size W1 w'→w'.cell? ⟨W.heap.size,1,none⟩=some (.slice (some ad) 2 c2)∧w'.cell? ad=some (.int .i64 (n:Int))∧w'.cell? ⟨ad.block,ad.off+1,none⟩=some (.int .i64 (m:Int))):=Lib.hid fun w' hb=>by
  have hr:=(r2.below (zaa hb1 hb)).more (zaa hb1 hb).size
  obtain ⟨ad0,u0,e0,_,hu0,hc0⟩:=hr.at_ (k:=0) (by simp)
  obtain ⟨ad1,u1,e1,_,hu1,hc1⟩:=hr.at_ (k:=1) (by simp)
  cases e0
  cases e1
  rw [zd3] at hc0
  rw [addr1] at hc1
  refine ⟨(hk1.below hb hk1.lt).cell 1, ?_, ?_⟩
  ·rw [hc0,←hu0];rfl
  ·rw [hc1,←hu1];rfl
 have hS0:=hSS.out _ (zad (Below.refl _ _))
 have HBk:Hid (∃(b:Nat),b≤9999999∧Calls Tryz.prog 84 #[.int .u64 (n:Int),.int .i64 (m:Int)] W1.drew fun e w'=>∃ev,e= .returned (.tuple #[.int .i64 (b:Int),ev])∧zcw ea w' ev (zdv ⟨[],[n,m]⟩).1∧((zdv ⟨[],[n,m]⟩).1=0→bt (Lib.decDigits b)=(zdv ⟨[],[n,m]⟩).2)∧Below W1.heap.size W1 w'):=Lib.hid (by
  unfold zdv
  rw [show ([n,m]:List Nat).getD 0 0=n from rfl,show ([n,m]:List Nat).getD 1 0=m from rfl]
  by_cases h:1≤m∧m≤1048576
  ·rw [if_pos h]
   refine ⟨Jp.B n m, ?_,(bucket_ok n m W1.drew hU h.1 h.2).mono fun e w' ⟨a,b⟩=>⟨_,a,.inl ⟨rfl,rfl⟩,fun _=>rfl,zab b⟩⟩
   have:=Jp.B_lt (key:=n) (n:=m) h.1
   omega
  ·rw [if_neg h]
   have he2:=((hE.below hb1).f).c2
   refine ⟨0,by omega,(bucket_bad n (m:Int) W1.drew (ea (gv 2)) he2 (by omega)).mono fun e w' ⟨a,q,b⟩=>⟨_,a,.inr ⟨za1 (by simp),⟨2,none⟩,_,_,rfl,⟨rfl,rfl⟩,rfl⟩,fun h0=>absurd (show (2:Nat)=0 from h0) (by decide), ?_⟩⟩
   subst b
   exact zab (below_drewN (Below.refl _ _) q))
 obtain ⟨b,hb9,HBo⟩:=HBk.out
 have HBC:=Lib.hid HBo
 have HI:Hid (∀w2,Below W1.heap.size W1 w2→Calls Tryz.prog 85 #[.int .i64 (b:Int)] w2 fun e w'=>e= .returned (.string (bt (Lib.decDigits b)))∧Below w2.heap.size w2 w'):=Lib.hid fun w2 hb=>by
  have:=zeH (b:Int) (by omega) (by omega) w2 ((hW.below (zaa hb1 hb)).num)
  rw [Lib.itoa_nonneg] at this
  exact this
 have HF:Hid (∀w2 w3 ev,Below W1.heap.size W1 w2→zcw ea w2 ev (zdv ⟨[],[n,m]⟩).1→((zdv ⟨[],[n,m]⟩).1=0→bt (Lib.decDigits b)=(zdv ⟨[],[n,m]⟩).2)→Below w2.heap.size w2 w3→JmpPost ea (zdv ⟨[],[n,m]⟩) W (.returned (.tuple #[.string (bt (Lib.decDigits b)),ev])) w3):=Lib.hid fun w2 w3 ev hb2 he h0 hb3=>
  ⟨_,_,rfl,he.below hb3,h0,zaa hb1 (zaa hb2 hb3)⟩
 clear hx r2 hU hE hW HBk HBo hb9
 generalize JmpPost ea (zdv ⟨[],[n,m]⟩) W=PQ at*
 generalize zdv ⟨[],[n,m]⟩=r at*
 generalize bt (Lib.decDigits b)=t at*
 go_enter Tryz.func57,Tryz.ntmps57
 go_wp2_with fail
 rw [←hW1]
 clear hW1
 go_region_held3 (fun w'=>w'.cell? ⟨W.heap.size,1,none⟩=some (.slice (some ad) 2 c2)∧w'.cell? ad=some (.int .i64 (n:Int))∧w'.cell? ⟨ad.block,ad.off+1,none⟩=some (.int .i64 (m:Int))) (first|exact hS2|exact hS0|go_keep) (first
  |(go_at_call 84
    refine HBC.out.mono ?_
    rintro e w2 ⟨ev,rfl,he,h0,hb2⟩
    have hS2:=hSS.out _ hb2))
 all_goals
  have HI2:=Lib.hid (HI.out w2 hb2)
  have HF2:=Lib.hid (fun w3=>HF.out w2 w3 ev hb2 he h0)
  clear hb2 he h0 HI HF HBC hS0 hSS hS2
  go_wp2_with fail
  refine HI2.out.mono ?_
  rintro e w3 ⟨rfl,hb3⟩
  have HQ:=Lib.hid (HF2.out w3 hb3)
  clear hb3 HI2 HF2
  go_wp2
  exact HQ.out
end
end Go.Proofs.YthkfhfldoniolaaGreatDoor
