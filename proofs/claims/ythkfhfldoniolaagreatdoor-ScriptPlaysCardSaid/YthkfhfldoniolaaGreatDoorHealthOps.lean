/-
  Health in memory, and the walks of package health: find. The walks of package health: Look, Is. The walk of health.New. The walk of health.Up. Package health's Is and Look at any host, in one form.
-/
import Derived.Test.YthkfhfldoniolaaGreatDoorCodeA
import Derived.Lib.SmallJoins
import Derived.Test.YthkfhfldoniolaaGreatDoorLists
import Derived.Test.YthkfhfldoniolaaGreatDoorBaseA
set_option maxHeartbeats 1000000
namespace Go.Proofs.YthkfhfldoniolaaGreatDoor
open Go.RowKit
structure St where
 host:ByteArray
 up:Bool
 looks:Nat
def ptr (b:Nat):Value:= .pointer (some ⟨b,0,none⟩)
def zbF (s:St):Array Value:= #[.string s.host,.bool s.up,.int .i64 (s.looks:Int)]
structure zay (w:World) (B hp:Nat) (fall rise:Nat) (st:List St) (sv:Value) (ps:List Nat):Prop where
 blk:Blk w hp 222 #[.int .i64 (fall:Int),.int .i64 (rise:Int),sv]
 own:w.ownsRow B 223 1 sv st.length (ps.map ptr)
 len:ps.length=st.length
 at_:∀(i p:Nat) (s:St),ps[i]? =some p→st[i]? =some s→Blk w p 225 (zbF s)
 nodup:ps.Nodup
 base:B≤hp∧∀p∈ps,B≤p
theorem zay.lt {w:World} {B hp fall rise:Nat} {st:List St} {sv:Value} {ps:List Nat} (h:zay w B hp fall rise st sv ps):∀p∈ps,p<w.heap.size:=by
 intro p hp
 obtain ⟨i,hi,rfl⟩:=List.mem_iff_getElem.1 hp
 have hi2:i<st.length:=by rw [←h.len];exact hi
 exact (h.at_ i ps[i] st[i] (List.getElem?_eq_getElem hi) (List.getElem?_eq_getElem hi2)).lt
theorem zay.below {w w':World} {B hp fall rise:Nat} {st:List St} {sv:Value} {ps:List Nat} (h:zay w B hp fall rise st sv ps) (hb:Below w.heap.size w w'):zay w' B hp fall rise st sv ps:=
 ⟨h.blk.below hb h.blk.lt,own_below h.own hb,h.len,fun i p s h1 h2=>(h.at_ i p s h1 h2).below hb (h.lt p (List.mem_of_getElem? h1)),h.nodup,h.base⟩
def hosts (st:List St):List ByteArray:=st.map (·.host)
theorem find_one (p b:Nat) (s:St) (x:ByteArray) (w:World) (h:Blk w p 225 (zbF s)) (hx:w.cell? ⟨b,0,none⟩=some (.string x)):
 Calls Tryz.prog 234 #[ptr p,ptr b] w fun e w'=>e= .returned (.bool (decide (s.host=x)))∧∃m,w'=w.drewN m:=by
 have hc:w.cell? ⟨p,0,none⟩=some (.string s.host):=h.cell 0
 unfold ptr
 clear h
 have HE:=Lib.hid (str_eq s.host x)
 go_enter Tryz.func234,Tryz.ntmps234
 go_wp2
 go_quiet (fail)
 go_wp2
 go_ret
 exact ⟨zeI HE.out,_,rfl⟩
theorem ptr_at {w:World} {B:Nat} {A:Option Addr} {ps:List Nat} {k:Nat} (h:Reads w B 1 A ps.length (ps.map ptr)) (hk:k<ps.length):
 ∃ad,A=some ad∧w.cell? (ad.add k)=some (.pointer (some ⟨ps[k],0,none⟩)):=by
 obtain ⟨ad,u,hA,_,hx,hc⟩:=h.at_ hk
 refine ⟨ad,hA, ?_⟩
 rw [hc]
 simp [hk,ptr] at hx
 rw [hx]
theorem hosts_get {st:List St} {k:Nat} (hk:k<st.length):(hosts st)[k]'(by simpa [hosts] using hk)=st[k].host:=by simp [hosts]
def IdxQuiet (i:Int) (w:World) (e:Ending) (w':World):Prop:=e= .returned (.int .i64 i)∧∃m,w'=w.drewN m
theorem index_states (A:Option Addr) (c B b:Nat) (ps:List Nat) (st:List St) (x:ByteArray) (w:World) (hr:Reads w B 1 A ps.length (ps.map ptr)) (hl:ps.length≤maxLen) (hlen:ps.length=st.length)
 (hat:∀(i p:Nat) (s:St),ps[i]? =some p→st[i]? =some s→Blk w p 225 (zbF s)) (hx:w.cell? ⟨b,0,none⟩=some (.string x)):
 Calls Tryz.prog 233 #[.slice A ps.length c,.func (.func 234) #[] #[ptr b]] w (IdxQuiet (idx (hosts st) x) w):=by
 unfold maxLen at hl
 have HL:=Lib.hid hlen
 have HAT:=Lib.hid hat
 have HX:=Lib.hid hx
 clear hlen hat hx
 go_enter Tryz.func233,Tryz.ntmps233
 go_wp2_with fail
 go_loopw [5,8] (fun _ iv wr=>∃k m:Nat,k≤ps.length∧iv= .int .i64 (k:Int)∧wr=w.drewN m∧Hid (∀t∈(hosts st).take k,x≠t)) (fun _ iv _=>ps.length- (intOf iv).toNat)
 case atStart=>exact ⟨0,0,Nat.zero_le _,rfl,rfl,Lib.hid (by simp)⟩
 case round=>
  obtain ⟨k,m,hk,rfl,rfl,ht⟩:=hrel
  by_cases hlt:k<ps.length
  ·obtain ⟨ad,rfl,hc⟩:=ptr_at hr hlt
   have hlt2:(k:Int)<ps.length:=by omega
   have hks:k<st.length:=by rw [←HL.out];exact hlt
   have hkh:k<(hosts st).length:=by simpa [hosts] using hks
   have HO:Hid (∀W,(∃n,W=w.drewN n)→Calls Tryz.prog 234 #[.pointer (some ⟨ps[k],0,none⟩),ptr b] W fun e w'=>e= .returned (.bool (decide (st[k].host=x)))∧∃m,w'=W.drewN m):=
    Lib.hid fun W hW=>by
     obtain ⟨n,rfl⟩:=hW
     exact find_one ps[k] b st[k] x _ ((HAT.out k ps[k] st[k] (List.getElem?_eq_getElem hlt) (List.getElem?_eq_getElem hks)).drewN n) HX.out
   by_cases he:st[k].host=x
   ·have hB:decide (st[k].host=x)=true:=by simpa using he
    rw [hB] at HO
    have HE:Hid (x=(hosts st)[k]):=Lib.hid (by rw [hosts_get hks];exact he.symm)
    clear he hB
    go_wp2_with (go_at_call 234;refine (HO.out _ ⟨_,rfl⟩).mono ?_;rintro e w1 ⟨rfl,m1,rfl⟩)
    go_ret
    exact ⟨by rw [idx_hit hkh ht.out HE.out];rfl,_,rfl⟩
   ·have hB:decide (st[k].host=x)=false:=by simpa using he
    rw [hB] at HO
    have HE:Hid (x≠(hosts st)[k]):=Lib.hid (by rw [hosts_get hks];exact fun h=>he h.symm)
    clear he hB
    go_wp2_with (go_at_call 234;refine (HO.out _ ⟨_,rfl⟩).mono ?_;rintro e w1 ⟨rfl,m1,rfl⟩)
    go_roundw
    case rel=>exact ⟨k+1,_,by omega,by go_num,rfl,zf8 hkh ht HE.out⟩
    case measure=>simp [intOf];omega
  ·have hge:(ps.length:Int)≤k:=by omega
   have hgeh:(hosts st).length≤k:=by simp [hosts];rw [←HL.out];omega
   go_wp2
   go_ret
   exact ⟨by rw [zbV (all_miss hgeh ht)];rfl,m,rfl⟩
def IdxBelow (i:Int) (w:World) (e:Ending) (w':World):Prop:=e= .returned (.int .i64 i)∧Below w.heap.size w w'
theorem find_any {B hp fall rise:Nat} {st:List St} {sv:Value} {ps:List Nat} (x:ByteArray) (w:World) (h:zay w B hp fall rise st sv ps):
 Calls Tryz.prog 186 #[ptr hp,.string x] w (IdxBelow (idx (hosts st) x) w):=by
 have h1:=h.below ((Below.refl w.heap.size w).alloc (Nat.le_refl _) (.cells #[.string x] 9))
 obtain ⟨A,cap,hsv,hr,_,hm⟩:=zai h1.own
 subst hsv
 have hpl:=h.blk.lt
 have hc:w.cell? ⟨hp,2,none⟩=some (.slice A st.length cap):=h.blk.cell 2
 rw [←h1.len] at hr hm
 have HI:=Lib.hid (index_states _ cap _ w.heap.size ps st x (w.alloc (.cells #[.string x] 9)) hr hm h1.len h1.at_ (by simp))
 rw [h1.len] at HI
 unfold ptr at HI ⊢
 generalize idx (hosts st) x=i at*
 clear h h1 hr hm
 go_enter Tryz.func186,Tryz.ntmps186
 go_wp2_with (go_at_call 233;refine HI.out.mono ?_;rintro e w1 ⟨rfl,m,rfl⟩)
 go_ret
 exact ⟨rfl,below_drewN ((Below.refl _ _).alloc (Nat.le_refl _) _) _⟩
end Go.Proofs.YthkfhfldoniolaaGreatDoor
namespace Go.Proofs.YthkfhfldoniolaaGreatDoor
open Go.RowKit
def zbu (fall rise:Nat) (s:St) (well:Bool):St×Bool:=
 if s.up=well then ({ s with looks:=0 },false)
 else if s.looks+1<(if s.up then fall else rise) then ({ s with looks:=s.looks+1 },false) else ({ s with up:= !s.up,looks:=0 },true)
theorem zay.setState {w w':World} {B hp fall rise k p:Nat} {st:List St} {sv:Value} {ps:List Nat} {s':St} (h:zay w B hp fall rise st sv ps) (hp':ps[k]? =some p)
 (hg:w.grownBy w' (some p)) (hB:Blk w' p 225 (zbF s')):zay w' B hp fall rise (st.set k s') sv ps:=by
 have hk:k<ps.length:=by
  rcases Nat.lt_or_ge k ps.length with h|h
  ·exact h
  ·rw [List.getElem?_eq_none h] at hp';cases hp'
 have hks:k<st.length:=by rw [←h.len];exact hk
 have hold:Blk w p 225 (zbF st[k]):=h.at_ k p st[k] hp' (List.getElem?_eq_getElem hks)
 refine ⟨h.blk.grown hg (fun e=> ?_), ?_,by rw [List.length_set];exact h.len,fun i q s h1 h2=> ?_,h.nodup,h.base⟩
 ·exact Blk.ne_ h.blk hold (by decide) (Option.some.inj e)
 ·rw [List.length_set];exact h.own.kept hg (.inr (zbe h.own hold (by decide)))
 ·by_cases hik:i=k
  ·subst hik
   rw [hp'] at h1
   obtain rfl:=Option.some.inj h1
   rw [List.getElem?_set_self hks] at h2
   obtain rfl:=Option.some.inj h2
   exact hB
  ·rw [List.getElem?_set_ne (Ne.symm hik)] at h2
   refine (h.at_ i q s h1 h2).grown hg (fun e=> ?_)
   obtain rfl:=Option.some.inj e
   have hi:i<ps.length:=by
    rcases Nat.lt_or_ge i ps.length with h|h
    ·exact h
    ·rw [List.getElem?_eq_none h] at h1;cases h1
   rw [List.getElem?_eq_getElem hi] at h1
   rw [List.getElem?_eq_getElem hk] at hp'
   have:=(List.pairwise_iff_getElem.1 h.nodup)
   rcases Nat.lt_or_gt_of_ne hik with hlt|hlt
   ·exact this i k hi hk hlt ((Option.some.inj h1).trans (Option.some.inj hp').symm)
   ·exact this k i hk hi hlt ((Option.some.inj hp').trans (Option.some.inj h1).symm)
def LookPost (B hp fall rise:Nat) (st:List St) (sv:Value) (ps:List Nat) (k p:Nat) (r:St×Bool) (w:World) (e:Ending) (w':World):Prop:=
 e= .returned (.tuple #[.bool r.2,.nilIface])∧zay w' B hp fall rise (st.set k r.1) sv ps∧w.grownBy w' (some p)
structure StAt (w:World) (B hp fall rise:Nat) (st:List St) (sv:Value) (ps:List Nat) (k:Nat) (g cap p:Nat) (s:St):Prop where
 sv_:sv= .slice (some ⟨g,0,none⟩) st.length cap
 lt:k<st.length
 get:st[k]? =some s
 pget:ps[k]? =some p
 f:w.cell? ⟨hp,0,none⟩=some (.int .i64 (fall:Int))
 r:w.cell? ⟨hp,1,none⟩=some (.int .i64 (rise:Int))
 l:w.cell? ⟨hp,2,none⟩=some sv
 e:w.cell? ⟨g,k,none⟩=some (.pointer (some ⟨p,0,none⟩))
 b:Blk w p 225 (zbF s)
theorem zay.stAt {w:World} {B hp fall rise k:Nat} {st:List St} {sv:Value} {ps:List Nat} (h:zay w B hp fall rise st sv ps) (hk:k<st.length):
 ∃g cap p s,StAt w B hp fall rise st sv ps k g cap p s:=by
 have hkp:k<ps.length:=by rw [h.len];exact hk
 obtain ⟨g,cap,hsv,_⟩:=h.own.form (by omega)
 refine ⟨g,cap,ps[k],st[k],hsv,hk,List.getElem?_eq_getElem hk,List.getElem?_eq_getElem hkp,h.blk.cell 0,h.blk.cell 1,h.blk.cell 2, ?_,h.at_ k _ _ (List.getElem?_eq_getElem hkp) (List.getElem?_eq_getElem hk)⟩
 have:=h.own.cells (g:=g) (by rw [hsv];rfl) k (ptr ps[k]) (by simp [hkp])
 by_cases h0:k=0
 ·subst h0;simpa [Addr.add,ptr] using this
 ·simpa [Addr.add,h0,ptr] using this
theorem Blk.set2 {w:World} {p:Nat} {s:St} (h:Blk w p 225 (zbF s)) (n:Nat):Blk (w.setCell ⟨p,2,none⟩ (.int .i64 (n:Int))) p 225 (zbF { s with looks:=n }):=h.zbk 2 _
theorem Blk.set1 {w:World} {p:Nat} {s:St} (h:Blk w p 225 (zbF s)) (b:Bool):Blk (w.setCell ⟨p,1,none⟩ (.bool b)) p 225 (zbF { s with up:=b }):=h.zbk 1 _
theorem only_refl (w:World) (row:Option Nat):w.grownBy w row:=World.grownBy.refl w row
def set2 (w:World) (p n:Nat):World:=w.setCell ⟨p,2,none⟩ (.int .i64 (n:Int))
def set1 (w:World) (p:Nat) (b:Bool):World:=w.setCell ⟨p,1,none⟩ (.bool b)
theorem zc1 {w w1:World} {p:Nat} (h:w.grownBy w1 (some p)) (n:Nat):w.grownBy (set2 w1 p n) (some p):=zce (p:=⟨p,2,none⟩) h (.inl rfl) _
theorem grown_set1 {w w1:World} {p:Nat} (h:w.grownBy w1 (some p)) (b:Bool):w.grownBy (set1 w1 p b) (some p):=zce (p:=⟨p,1,none⟩) h (.inl rfl) _
theorem set2_fin {w w1:World} {B hp fall rise k p:Nat} {st:List St} {sv:Value} {ps:List Nat} {s:St} (hb:Below w.heap.size w w1) (h:zay w1 B hp fall rise st sv ps) (hps:ps[k]? =some p)
 (hB:Blk w1 p 225 (zbF s)) (n:Nat):zay (set2 w1 p n) B hp fall rise (st.set k { s with looks:=n }) sv ps∧w.grownBy (set2 w1 p n) (some p):=
 ⟨h.setState hps (zc1 (only_refl w1 (some p)) n) (Blk.set2 hB n),zc1 (zcX hb (some p)) n⟩
theorem set3_fin {w w1:World} {B hp fall rise k p:Nat} {st:List St} {sv:Value} {ps:List Nat} {s:St} (hb:Below w.heap.size w w1) (h:zay w1 B hp fall rise st sv ps) (hps:ps[k]? =some p)
 (hB:Blk w1 p 225 (zbF s)) (n:Nat) (b:Bool):zay (set2 (set1 (set2 w1 p n) p b) p 0) B hp fall rise (st.set k { s with up:=b,looks:=0 }) sv ps∧w.grownBy (set2 (set1 (set2 w1 p n) p b) p 0) (some p):=
 ⟨h.setState hps (zc1 (grown_set1 (zc1 (only_refl w1 (some p)) n) b) 0) (Blk.set2 (Blk.set1 (Blk.set2 hB n) b) 0),zc1 (grown_set1 (zc1 (zcX hb (some p)) n) b) 0⟩
theorem look_found {B hp fall rise k:Nat} {st:List St} {sv:Value} {ps:List Nat} {g cap p:Nat} {s:St} (x:ByteArray) (well:Bool) (w:World) (h:zay w B hp fall rise st sv ps)
 (hi:idx (hosts st) x=k) (hS:StAt w B hp fall rise st sv ps k g cap p s) (hlooks:s.looks<100):
 Calls Tryz.prog 152 #[ptr hp,.string x,.bool well] w (LookPost B hp fall rise st sv ps k p (zbu fall rise s well) w):=by
 have HF:=Lib.hid (find_any x w h)
 rw [hi] at HF
 have HH:=Lib.hid h
 have HS:=Lib.hid hS
 have hkl:(k:Int)<st.length:=by have:=hS.lt;omega
 have hps:=hS.pget
 clear h hi hS
 unfold ptr at HF ⊢
 have hread:∀w1:World,Below w.heap.size w w1→w1.cell? ⟨hp,0,none⟩=some (.int .i64 (fall:Int))∧w1.cell? ⟨hp,1,none⟩=some (.int .i64 (rise:Int))∧w1.cell? ⟨hp,2,none⟩=some (.slice (some ⟨g,0,none⟩) st.length cap)∧w1.cell? ⟨g,k,none⟩=some (.pointer (some ⟨p,0,none⟩))∧
  w1.cell? ⟨p,0,none⟩=some (.string s.host)∧w1.cell? ⟨p,1,none⟩=some (.bool s.up)∧w1.cell? ⟨p,2,none⟩=some (.int .i64 (s.looks:Int))∧w1.frozen? ⟨p,1,none⟩=false∧w1.frozen? ⟨p,2,none⟩=false:=by
  intro w1 hb
  have h1:=HH.out.below hb
  have hB:=HS.out.b.below hb HS.out.b.lt
  have hgl:g<w.heap.size:=(HH.out.own.lt g (by rw [HS.out.sv_];rfl)).2
  refine ⟨h1.blk.cell 0,h1.blk.cell 1,by rw [←HS.out.sv_];exact h1.blk.cell 2,(hb.cell (p:=⟨g,k,none⟩) hgl).trans HS.out.e,hB.cell 0,hB.cell 1,hB.cell 2,hB.frozen 1,hB.frozen 2⟩
 have HR:=Lib.hid hread
 clear hread
 have fin0:∀w1:World,Below w.heap.size w w1→∀n:Nat,zay (set2 w1 p n) B hp fall rise (st.set k { s with looks:=n }) sv ps∧w.grownBy (set2 w1 p n) (some p):=
  fun w1 hb n=>set2_fin hb (HH.out.below hb) hps (HS.out.b.below hb HS.out.b.lt) n
 have fin1:∀w1:World,Below w.heap.size w w1→∀(n:Nat) (b:Bool),zay (set2 (set1 (set2 w1 p n) p b) p 0) B hp fall rise (st.set k { s with up:=b,looks:=0 }) sv ps∧w.grownBy (set2 (set1 (set2 w1 p n) p b) p 0) (some p):=
  fun w1 hb n b=>set3_fin hb (HH.out.below hb) hps (HS.out.b.below hb HS.out.b.lt) n b
 have F0:=Lib.hid fin0
 have F1:=Lib.hid fin1
 clear fin0 fin1 hps
 obtain ⟨host,up,looks⟩:=s
 dsimp only at*
 by_cases hw:up=well
 ·have hE:zbu fall rise ⟨host,up,looks⟩ well=(⟨host,up,0⟩,false):=by unfold zbu;rw [if_pos hw]
  rw [hE]
  have hwB:(up==well)=true:=by simpa using hw
  clear hE hw
  go_enter Tryz.func152,Tryz.ntmps152
  go_wp2_with (go_at_call 186;refine HF.out.mono ?_;rintro e w1 ⟨rfl,hb⟩;obtain ⟨c0,c1,c2,c3,c4,c5,c6,c7,c8⟩:=HR.out w1 hb)
  go_ret2
  exact ⟨rfl,F0.out w1 hb 0⟩
 ·have hwell:well= !up:=by cases up<;>cases well<;>simp_all
  subst hwell
  have edge:∀b:Bool,((if b then fall else rise:Nat):Int)=if b then (fall:Int) else (rise:Int):=by intro b;cases b<;>rfl
  by_cases hlt:looks+1<(if up then fall else rise)
  ·have hE:zbu fall rise ⟨host,up,looks⟩ (!up)=(⟨host,up,looks+1⟩,false):=by unfold zbu;rw [if_neg hw,if_pos hlt]
   rw [hE]
   clear hE hw edge
   cases up
   all_goals
    simp only [if_true,if_false,Bool.false_eq_true] at hlt
    have hI:=Int.ofNat_lt.2 hlt
    push_cast at hI
    go_enter Tryz.func152,Tryz.ntmps152
    go_wp2_with (go_at_call 186;refine HF.out.mono ?_;rintro e w1 ⟨rfl,hb⟩;obtain ⟨c0,c1,c2,c3,c4,c5,c6,c7,c8⟩:=HR.out w1 hb)
    go_ret2
    exact ⟨rfl,F0.out w1 hb (looks+1)⟩
  ·have hE:zbu fall rise ⟨host,up,looks⟩ (!up)=(⟨host,!up,0⟩,true):=by unfold zbu;rw [if_neg hw,if_neg hlt]
   rw [hE]
   clear hE hw edge
   cases up
   all_goals
    simp only [if_true,if_false,Bool.false_eq_true,Nat.not_lt] at hlt
    have hI:=Int.ofNat_le.2 hlt
    push_cast at hI
    go_enter Tryz.func152,Tryz.ntmps152
    go_wp2_with (go_at_call 186;refine HF.out.mono ?_;rintro e w1 ⟨rfl,hb⟩;obtain ⟨c0,c1,c2,c3,c4,c5,c6,c7,c8⟩:=HR.out w1 hb)
    go_ret2
    exact ⟨rfl,F1.out w1 hb (looks+1) _⟩
theorem look_none {B hp fall rise:Nat} {st:List St} {sv:Value} {ps:List Nat} (x:ByteArray) (well:Bool) (w:World) (h:zay w B hp fall rise st sv ps) (hi:idx (hosts st) x= -1)
 (a:Addr) (hv:w.cell? ⟨gv 5,0,none⟩=some (.iface 355 (.pointer (some a)))):
 Calls Tryz.prog 152 #[ptr hp,.string x,.bool well] w fun e w'=>e= .returned (.tuple #[.bool false,.iface 355 (.pointer (some a))])∧Below w.heap.size w w':=by
 have HF:=Lib.hid (find_any x w h)
 rw [hi] at HF
 have HV:=Lib.hid (fun w1 (hb:Below w.heap.size w w1)=>(hb.cell (p:=⟨gv 5,0,none⟩) (lt_of_cell hv)).trans hv)
 dsimp only [gv] at HV
 clear h hi hv
 unfold ptr at HF ⊢
 go_enter Tryz.func152,Tryz.ntmps152
 go_wp2_with fail
 refine HF.out.mono ?_
 rintro e w1 ⟨rfl,hb⟩
 have hc:=HV.out w1 hb
 go_wp2
 go_quiet (fail)
 go_wp2
 go_ret2
 exact ⟨rfl,below_drewN hb _⟩
def isUp (st:List St) (x:ByteArray):Bool:=
 match st.find? (fun s=>decide (x=s.host)) with
 |some s=>s.up
 |none=>false
theorem is_none {B hp fall rise:Nat} {st:List St} {sv:Value} {ps:List Nat} (x:ByteArray) (w:World) (h:zay w B hp fall rise st sv ps) (hi:idx (hosts st) x= -1):
 Calls Tryz.prog 149 #[ptr hp,.string x] w fun e w'=>e= .returned (.bool false)∧Below w.heap.size w w':=by
 have HF:=Lib.hid (find_any x w h)
 rw [hi] at HF
 clear h hi
 unfold ptr at HF ⊢
 go_enter Tryz.func149,Tryz.ntmps149
 go_wp2_with (go_at_call 186;refine HF.out.mono ?_;rintro e w1 ⟨rfl,hb⟩)
 go_ret
 exact ⟨rfl,hb⟩
theorem is_found {B hp fall rise k:Nat} {st:List St} {sv:Value} {ps:List Nat} {g cap p:Nat} {s:St} (x:ByteArray) (w:World) (h:zay w B hp fall rise st sv ps)
 (hi:idx (hosts st) x=k) (hS:StAt w B hp fall rise st sv ps k g cap p s):
 Calls Tryz.prog 149 #[ptr hp,.string x] w fun e w'=>e= .returned (.bool s.up)∧Below w.heap.size w w':=by
 have HF:=Lib.hid (find_any x w h)
 rw [hi] at HF
 have hkl:(k:Int)<st.length:=by have:=hS.lt;omega
 have hread:∀w1:World,Below w.heap.size w w1→w1.cell? ⟨hp,2,none⟩=some (.slice (some ⟨g,0,none⟩) st.length cap)∧w1.cell? ⟨g,k,none⟩=some (.pointer (some ⟨p,0,none⟩))∧w1.cell? ⟨p,1,none⟩=some (.bool s.up):=by
  intro w1 hb
  have h1:=h.below hb
  have hgl:g<w.heap.size:=(h.own.lt g (by rw [hS.sv_];rfl)).2
  exact ⟨by rw [←hS.sv_];exact h1.blk.cell 2,(hb.cell (p:=⟨g,k,none⟩) hgl).trans hS.e,(hS.b.below hb hS.b.lt).cell 1⟩
 have HR:=Lib.hid hread
 clear hread h hi hS
 unfold ptr at HF ⊢
 obtain ⟨host,up,looks⟩:=s
 dsimp only at*
 go_enter Tryz.func149,Tryz.ntmps149
 go_wp2_with (go_at_call 186;refine HF.out.mono ?_;rintro e w1 ⟨rfl,hb⟩;obtain ⟨c0,c1,c2⟩:=HR.out w1 hb)
 go_ret
 exact ⟨rfl,hb⟩
end Go.Proofs.YthkfhfldoniolaaGreatDoor
namespace Go.Proofs.YthkfhfldoniolaaGreatDoor
open Go.RowKit
theorem info_state:(Tryz.prog.info? 223).map (fun i=>(i.zero,i.size,i.bytes))=some (some (.pointer none),1,8):=by kernel_rfl
def fresh (l:List ByteArray):List St:=l.map fun s=>⟨s,true,0⟩
def pushW (w:World) (s:St):World:=(w.alloc (.cells (zbF s) 225)).alloc (.cells #[ptr w.heap.size] 223)
theorem pushW_new (w:World) (s:St):Blk (pushW w s) w.heap.size 225 (zbF s):=(Blk.new w _ _).alloc _
theorem zb6 (w:World) (s:St):Below w.heap.size w (pushW w s):=((Below.refl _ _).alloc (Nat.le_refl _) _).alloc (by simp) _
theorem zay.push {w w1:World} {B hp fall rise:Nat} {st:List St} {sv v:Value} {ps:List Nat} {s:St} (h:zay w B hp fall rise st sv ps) (hB:B≤w.heap.size)
 (hg:(pushW w s).grownBy w1 sv.ownBlock) (ho:w1.ownsRow B 223 1 v (st.length+1) (ps.map ptr++[ptr w.heap.size])):
 zay (w1.setCell ⟨hp,2,none⟩ v) B hp fall rise (st++[s]) v (ps++[w.heap.size]):=by
 have h1:=h.below (zb6 w s)
 have hpn:some hp≠sv.ownBlock:=fun e=>zbe h1.own h1.blk (by decide) e.symm
 have hb1:Blk w1 hp 222 _:=h1.blk.grown hg hpn
 have hst:∀(p:Nat) (x:St),Blk (pushW w s) p 225 (zbF x)→Blk (w1.setCell ⟨hp,2,none⟩ v) p 225 (zbF x):=fun p x hx=>
  (hx.grown hg (fun e=>zbe h1.own hx (by decide) e.symm)).far (p:=⟨hp,2,none⟩) (Blk.ne_ (hx.grown hg (fun e=>zbe h1.own hx (by decide) e.symm)) hb1 (by decide)) v
 refine ⟨hb1.zbk 2 v, ?_,by simp [h.len],fun i p x hi hx=> ?_, ?_,h.base.1,fun p hp'=> ?_⟩
 ·rw [List.length_append,List.map_append]
  exact ho.kept (zce (p:=⟨hp,2,none⟩) (only_refl w1 (some hp)) (.inl rfl) v) (.inr (zbe ho hb1 (by decide)))
 ·by_cases hlt:i<ps.length
  ·rw [List.getElem?_append_left hlt] at hi
   rw [List.getElem?_append_left (by rw [←h.len];exact hlt)] at hx
   exact hst p x (h1.at_ i p x hi hx)
  ·have hi2:i=ps.length:=by
    have:i<(ps++[w.heap.size]).length:=by
     rcases Nat.lt_or_ge i (ps++[w.heap.size]).length with h'|h'
     ·exact h'
     ·rw [List.getElem?_eq_none h'] at hi;cases hi
    simp at this;omega
   subst hi2
   rw [List.getElem?_append_right (Nat.le_refl _)] at hi
   rw [h.len,List.getElem?_append_right (Nat.le_refl _)] at hx
   simp at hi hx
   subst hi;subst hx
   exact hst _ _ (pushW_new w s)
 ·rw [List.nodup_append]
  refine ⟨h.nodup,by simp,fun a ha b hb=> ?_⟩
  have:=h.lt a ha
  simp at hb
  omega
 ·rcases List.mem_append.1 hp' with h'|h'
  ·exact h.base.2 p h'
  ·simp at h';omega
theorem push_cell (w:World) (s:St):∀(j:Nat) (u:Value),[Value.pointer (some ⟨w.heap.size,0,none⟩)][j]? =some u→(pushW w s).cell? ((⟨w.heap.size+1,0,none⟩:Addr).add j)=some u:=by
 have h:=cell_one_new (w.alloc (.cells (zbF s) 225)) (ptr w.heap.size) 223
 have e:(w.alloc (.cells (zbF s) 225)).heap.size=w.heap.size+1:=by simp
 rw [e] at h
 exact h
theorem push_blk {w w1:World} {B hp fall rise:Nat} {st:List St} {sv:Value} {ps:List Nat} {s:St} (h:zay w B hp fall rise st sv ps)
 (hg:(pushW w s).grownBy w1 sv.ownBlock):Blk w1 hp 222 #[.int .i64 (fall:Int),.int .i64 (rise:Int),sv]:=
 (h.below (zb6 w s)).blk.grown hg (fun e=>zbe (h.below (zb6 w s)).own (h.below (zb6 w s)).blk (by decide) e.symm)
theorem push_final {w wr w3:World} {s:St} {hp n:Nat} {sv v:Value} {xs:List Value} (hb:Below w.heap.size w wr) (hown:(pushW wr s).ownsRow w.heap.size 223 1 sv n xs) (hg:(pushW wr s).grownBy w3 sv.ownBlock) (hhp:w.heap.size≤hp):
 Below w.heap.size w (w3.setCell ⟨hp,2,none⟩ v):=
 ((hb.trans ((zb6 wr s).mono hb.size)).grown hg (Nat.le_trans hb.size (zb6 wr s).size) fun k hk=>(hown.lt k hk).1).setCell (p:=⟨hp,2,none⟩) hhp v
theorem fresh_take {l:List ByteArray} {k:Nat} (hk:k<l.length):fresh (l.take (k+1))=fresh (l.take k)++[⟨l[k],true,0⟩]:=by
 unfold fresh;rw [List.take_succ_eq_append_getElem hk,List.map_append];rfl
theorem fresh_length (l:List ByteArray) (k:Nat) (hk:k≤l.length):(fresh (l.take k)).length=k:=by simp [fresh];omega
set_option maxRecDepth 100000 in
theorem new_ok (ea:Nat→Addr) (A:Option Addr) (c B:Nat) (l:List ByteArray) (fall rise:Nat) (w:World) (hE:zfo ea w) (hr:Reads w B 1 A l.length (zak l)) (hB:B≤w.heap.size) (hlc:l.length≤c) (hl:l.length≤maxLen) (hs:∀s∈l,s.size≤maxLen)
 (hf:zaf l=none) (hl12:l.length≤12) (h1:1≤fall) (h2:fall≤10) (h3:1≤rise) (h4:rise≤10):
 Calls Tryz.prog 132 #[.slice A l.length c,.int .i64 (fall:Int),.int .i64 (rise:Int)] w fun e w'=>
  ∃hp sv ps,e= .returned (.tuple #[ptr hp,.nilIface])∧zay w' w.heap.size hp fall rise (fresh l) sv ps∧Below w.heap.size w w':=by
 have HC:Hid (Calls Tryz.prog 137 #[.slice A l.length c] w fun e w'=>e= .returned .nilIface∧Below w.heap.size w w'):=Lib.hid ((zdD ea A c B l w hE hr hB hlc hl hs).mono fun e w' h=>by
  unfold zby at h;rw [hf] at h;exact h)
 have b1:decide ((fall:Int)<1)=false:=by simp;omega
 have b2:decide ((fall:Int)>10)=false:=by simp;omega
 have b3:decide ((rise:Int)<1)=false:=by simp;omega
 have b4:decide ((rise:Int)>10)=false:=by simp;omega
 clear hE hf h1 h2 h3 h4
 unfold maxLen at hl
 obtain ⟨i0,hi,hz0,hz1,hz2⟩:=info_parts info_state
 go_enter Tryz.func132,Tryz.ntmps132
 go_wp2_with fail
 refine HC.out.mono ?_
 rintro e w1 ⟨rfl,hb1⟩
 go_wp2_with fail
 go_loopw [11,38] (fun _ iv wr=>∃(k:Nat) (sv:Value) (ps:List Nat),k≤l.length∧iv= .int .i64 (k:Int)∧zay wr w.heap.size w1.heap.size fall rise (fresh (l.take k)) sv ps∧Below w.heap.size w wr) (fun _ iv _=>l.length- (intOf iv).toNat)
 case atStart=>exact ⟨0,.slice none 0 0,[],Nat.zero_le _,rfl,⟨Blk.new _ _ _,⟨rfl,.inl ⟨rfl,rfl⟩⟩,rfl,fun i p s h=>by simp at h,List.nodup_nil,hb1.size,fun p hp=>by cases hp⟩,hb1.alloc hb1.size _⟩
 case round=>
  obtain ⟨k,sv,ps,hk,rfl,hH,hb⟩:=hrel
  by_cases hlt:k<l.length
  ·have hrr:Reads wr B 1 A l.length (zak l):=hr.keep fun p hp=>hb.cell (by omega)
   obtain ⟨ad,rfl,hc⟩:=zcq hrr hlt
   have hlt2:(k:Int)<l.length:=by omega
   have hhl:=hH.blk.lt
   have c2:wr.cell? ⟨w1.heap.size,2,none⟩=some sv:=hH.blk.cell 2
   have hfl:=fresh_length l k hk
   have hown:=own_below hH.own (zb6 wr ⟨l[k],true,0⟩)
   rw [hfl] at hown
   obtain ⟨Av,cv,hsv,_⟩:=zai hown
   subst hsv
   have HH:=Lib.hid hH
   have HK:=Lib.hid hfl
   clear hH hfl
   go_wp2_with (at_builtin
                refine wpList_append_own _ rfl _ _ 220 rfl w.heap.size 223 i0 (.pointer none) 1 8 Tryz.underlying220 hi hz0 hz1 hz2 rfl (by decide) _ _ _ rfl hown ⟨wr.heap.size+1,0,none⟩ 1 1 [.pointer (some ⟨wr.heap.size,0,none⟩)] rfl rfl (push_cell wr ⟨l[k],true,0⟩) (by simp [Value.oneCell']) (by simp only [maxLen];omega) (by omega) (by have:=hb.size;simp;omega) ?_
                intro v' w3 hown3 hgrow _
                have hb3:=push_blk (s:=⟨l[k],true,0⟩) HH.out hgrow
                have cc:=hb3.cell 2
                have cf:=hb3.frozen 2
                obtain ⟨A3,cap3,hv3,_⟩:=zai hown3
                rw [hv3]
                rw [hv3] at hown3
                clear hb3 hv3)
   go_roundw
   case rel=>
    have hpu:=HH.out.push (s:=⟨l[k],true,0⟩) (v:= .slice A3 (k+1) cap3) hb.size hgrow (by rw [HK.out];exact hown3)
    exact ⟨k+1,_,_,by omega,by go_num,by rw [fresh_take hlt];exact hpu,push_final (s:=⟨l[k],true,0⟩) hb hown hgrow hb1.size⟩
   case measure=>simp [intOf];omega
  ·have hge:(l.length:Int)≤k:=by omega
   have HH:=Lib.hid hH
   clear hH
   go_wp2
   go_ret2
   have hfin:=HH.out
   rw [List.take_of_length_le (by omega)] at hfin
   exact ⟨w1.heap.size,sv,ps,rfl,hfin,hb⟩
end Go.Proofs.YthkfhfldoniolaaGreatDoor
namespace Go.Proofs.YthkfhfldoniolaaGreatDoor
open Go.RowKit
def ups (st:List St):List ByteArray:=(st.filter fun s=>s.up).map (·.host)
theorem ups_succ {st:List St} {k:Nat} (hk:k<st.length):ups (st.take (k+1))=if st[k].up then ups (st.take k)++[st[k].host] else ups (st.take k):=by
 unfold ups
 rw [List.take_succ_eq_append_getElem hk,List.filter_append,List.map_append]
 cases h:st[k].up<;>simp [h]
theorem ups_le (st:List St) (k:Nat):(ups (st.take k)).length≤st.length:=by
 unfold ups
 rw [List.length_map]
 exact Nat.le_trans (List.length_filter_le _ _) (by rw [List.length_take];omega)
set_option maxRecDepth 100000 in
theorem up_any {B hp fall rise:Nat} {st:List St} {sv:Value} {ps:List Nat} (w:World) (h:zay w B hp fall rise st sv ps) (hl:st.length≤100):
 Calls Tryz.prog 103 #[ptr hp] w (zaL (ups st) w):=by
 obtain ⟨A,cap,rfl,hrp,_⟩:=zai h.own
 have hc2:w.cell? ⟨hp,2,none⟩=some (.slice A st.length cap):=h.blk.cell 2
 have HH:=Lib.hid h
 clear h
 unfold ptr
 obtain ⟨i0,hi,hz0,hz1,hz2⟩:=info_parts zb8
 go_enter Tryz.func103,Tryz.ntmps103
 go_wp2_with fail
 go_loopw [3,5,11] (fun v _ iv wr=>∃k:Nat,k≤st.length∧iv= .int .i64 (k:Int)∧wr.ownsRow w.heap.size 9 1 v (ups (st.take k)).length (zak (ups (st.take k)))∧Below w.heap.size w wr) (fun _ _ iv _=>st.length- (intOf iv).toNat)
 case atStart=>exact ⟨0,Nat.zero_le _,rfl,⟨rfl,.inl ⟨rfl,rfl⟩⟩,Below.refl _ _⟩
 case round=>
  obtain ⟨k,hk,rfl,hown,hb⟩:=hrel
  by_cases hlt:k<st.length
  ·have hkp:k<ps.length:=by rw [HH.out.len];exact hlt
   have hrk:=hrp.below hb
   rw [←HH.out.len] at hrk
   obtain ⟨ad,hA,hc⟩:=ptr_at hrk hkp
   subst hA
   have hlt2:(k:Int)<st.length:=by omega
   have hB:=((HH.out.at_ k ps[k] st[k] (List.getElem?_eq_getElem hkp) (List.getElem?_eq_getElem hlt)).below hb (HH.out.lt _ (List.getElem_mem hkp)))
   have c0:wr.cell? ⟨ps[k],0,none⟩=some (.string st[k].host):=hB.cell 0
   have c1:wr.cell? ⟨ps[k],1,none⟩=some (.bool st[k].up):=hB.cell 1
   have hup:=ups_le st k
   have HS:=Lib.hid (ups_succ hlt)
   clear hB
   generalize hst:st[k]=s at*
   have HST:=Lib.hid hst
   clear hst
   obtain ⟨host,up,looks⟩:=s
   dsimp only at*
   cases up with
   |false=>
    go_wp2
    go_roundw
    case rel=>exact ⟨k+1,by omega,by go_num,by rw [HS.out];exact hown,hb⟩
    case measure=>simp [intOf];omega
   |true=>
    go_wp2_with (at_builtin
                 refine wpList_append_own _ rfl _ _ 24 rfl w.heap.size 9 i0 (.string ⟨#[]⟩) 1 16 Tryz.underlying24 hi hz0 hz1 hz2 rfl (by decide) _ _ _ rfl (hown.alloc _) ⟨wr.heap.size,0,none⟩ 1 1 [.string host] rfl rfl (cell_one_new _ _ _) (by simp [Value.oneCell']) (by simp only [maxLen];omega) (by omega) (zbi hb) ?_
                 intro v' w3 hown3 hgrow _)
    go_roundw
    case rel=>
     have e:zak (ups (List.take k st)++[host])=zak (ups (List.take k st))++[.string host]:=by simp [zak]
     exact ⟨k+1,by omega,by go_num,by rw [HS.out];simp only [if_true];rw [e,List.length_append];exact hown3,zbg hb hown hgrow⟩
    case measure=>simp [intOf];omega
  ·have hge:(st.length:Int)≤k:=by omega
   have hfin:Hid (st.take k=st):=Lib.hid (List.take_of_length_le (by omega))
   go_wp2
   go_ret
   rw [hfin.out] at hown
   exact zdp hown hb
end Go.Proofs.YthkfhfldoniolaaGreatDoor
namespace Go.Proofs.YthkfhfldoniolaaGreatDoor
open Go.RowKit
theorem zek (st:List St):(hosts st).length=st.length:=by simp [hosts]
def zbC {α:Type} (l:List α) (i:Int) (f:α→α×Bool):List α×Bool:=if i<0 then (l,false) else match l[i.toNat]? with
 |some s=>(l.set i.toNat (f s).1,(f s).2)
 |none=>(l,false)
def zb5 (l:List ByteArray) (x:ByteArray):Nat:=if has l x=true then 0 else 5
def ze0 (st:List St) (x:ByteArray):Bool:=match idx (hosts st) x with
 | .ofNat k=>match st[k]? with
   |some s=>s.up
   |none=>false
 | .negSucc _=>false
section
variable {w w':World} {B hp fall rise:Nat} {st:List St} {sv:Value} {ps bs:List Nat}
theorem zay.turn (h:zay w B hp fall rise st sv ps) (ht:zam bs w w') (h1:hp∉bs) (h2:∀p∈ps,p∉bs) (h3:∀g,sv.ownBlock=some g→g∉bs):zay w' B hp fall rise st sv ps:=
 ⟨ht.blk h.blk h1,ht.own h.own h3,h.len,fun i p s a b=>ht.blk (h.at_ i p s a b) (h2 p (List.mem_of_getElem? a)),h.nodup,h.base⟩
theorem is_op (x:ByteArray) (w:World) (hR:zay w B hp fall rise st sv ps):
 Calls Tryz.prog 149 #[ptr hp,.string x] w fun e w'=>e= .returned (.bool (ze0 st x))∧Below w.heap.size w w':=by
 by_cases hm:x∈hosts st
 ·obtain ⟨k,hk,hi,_⟩:=zc4 hm
  rw [zek] at hk
  obtain ⟨g,cap,p,s,hS⟩:=hR.stAt hk
  have hU:ze0 st x=s.up:=by unfold ze0;rw [hi];simp [hS.get]
  rw [hU]
  exact is_found x w hR hi hS
 ·have hi:idx (hosts st) x= -1:=zbV fun t ht e=>hm (by rw [e];exact ht)
  have hU:ze0 st x=false:=by unfold ze0;rw [hi];rfl
  rw [hU]
  exact is_none x w hR hi
def LookOp (ea:Nat→Addr) (B hp fall rise:Nat) (r:List St×Bool) (c:Nat) (sv:Value) (ps:List Nat) (w:World) (e:Ending) (w':World):Prop:=
 e= .returned (.tuple #[.bool r.2,if c=0 then .nilIface else .iface 355 (.pointer (some (ea (gv c))))])∧zay w' B hp fall rise r.1 sv ps∧zam ps w w'
theorem look_op (ea:Nat→Addr) (x:ByteArray) (well:Bool) (w:World) (hR:zay w B hp fall rise st sv ps) (c5:w.cell? ⟨gv 5,0,none⟩=some (.iface 355 (.pointer (some (ea (gv 5)))))) (hlk:∀s∈st,s.looks<100):
 Calls Tryz.prog 152 #[ptr hp,.string x,.bool well] w (LookOp ea B hp fall rise (zbC st (idx (hosts st) x) fun s=>zbu fall rise s well) (zb5 (hosts st) x) sv ps w):=by
 unfold zb5 zbC
 by_cases hm:has (hosts st) x=true
 ·obtain ⟨k,hk,hi,_⟩:=zc4 (zbw.1 hm)
  rw [zek] at hk
  rw [if_pos hm,hi,if_neg (by omega),Int.toNat_natCast]
  obtain ⟨g,cap,p,s,hS⟩:=hR.stAt hk
  rw [hS.get]
  refine (look_found x well w hR hi hS (hlk s (List.mem_of_getElem? hS.get))).mono fun e w' ⟨a,b,c⟩=>⟨a,b,zam.zaE c fun g' hg'=> ?_⟩
  obtain rfl:=Option.some.inj hg'
  exact List.mem_of_getElem? hS.pget
 ·have hm':x∉hosts st:=fun h'=>hm (zbw.2 h')
  have hi:idx (hosts st) x= -1:=zbV fun t ht e=>hm' (by rw [e];exact ht)
  rw [if_neg hm,hi,if_pos (by decide)]
  exact (look_none x well w hR hi _ c5).mono fun e w' ⟨a,b⟩=>⟨a,hR.below b,zam.of_below b⟩
end
end Go.Proofs.YthkfhfldoniolaaGreatDoor
