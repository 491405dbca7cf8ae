/-
  The reference: numbers in tens and sixteens, the CRC, sealed texts.
-/
import Derived.Test.YthkfhfldoniolaaGreatDoorBaseA
import Derived.Lib.ItoaMem
import Derived.Laws.IdiomStrings
import Derived.Test.YthkfhfldoniolaaGreatDoorHexNum
import Derived.Test.YthkfhfldoniolaaGreatDoorCarLaws
import Derived.Test.YthkfhfldoniolaaGreatDoorFlowPlain
import Derived.BigQuiet
import Derived.Deep.RegionHeld3
import Derived.Deep.QuietTactic
import Derived.Test.YthkfhfldoniolaaGreatDoorRefFault
import Derived.Test.YthkfhfldoniolaaGreatDoorCarReads
set_option maxHeartbeats 2000000
namespace Go.Proofs.YthkfhfldoniolaaGreatDoor
open Go.RowKit
theorem ba_app (a b:List UInt8):(⟨a.toArray⟩:ByteArray)++⟨b.toArray⟩=⟨(a++b).toArray⟩:=by
 apply ByteArray.ext
 rw [ByteArray.data_append]
 simp
theorem byte_any (m:Nat) (hm:m<256) (w:World):
 Calls Tryz.prog 62 #[.int .i64 (m:Int)] w fun e w'=>e= .returned (.string ⟨#[UInt8.ofNat m]⟩)∧Below w.heap.size w w':=by
 have h2:(m:Int)%256=(m:Int):=by omega
 have hu:(UInt8.ofNat m).toNat=m:=by rw [UInt8.toNat_ofNat'];omega
 have kb:=run_convert_bytes_back (P:=Tryz.prog) (w.alloc (.cells #[.int .u8 (m:Int)] 5)) 185 9 5 ⟨w.heap.size,0,none⟩ 1 [UInt8.ofNat m] Tryz.underlying185 Tryz.underlying5 Tryz.underlying9 (fun j hj=>by
  simp only [List.length_singleton] at hj
  obtain rfl:j=0:=by omega
  show (w.alloc _).cell? ⟨w.heap.size,0,none⟩=_
  rw [World.cell?_alloc_new]
  simp only [List.getElem_singleton,hu]
  rfl)
 have kb':(convert 185 9 (.slice (some ⟨w.heap.size,0,none⟩) 1 1)).run Tryz.prog (w.alloc (.cells #[.int .u8 (m:Int)] 5))= .ok (.string ⟨#[UInt8.ofNat m]⟩) (w.alloc (.cells #[.int .u8 (m:Int)] 5)):=kb
 have hb:=(Below.refl w.heap.size w).alloc (Nat.le_refl _) (.cells #[.int .u8 (m:Int)] 5)
 clear kb hu
 go_enter Tryz.func62,Tryz.ntmps62
 go_wp2
 go_ret
 exact ⟨rfl,hb⟩
theorem dec_len2:∀(d n:Nat),n<10^(d+1)→(Lib.decDigits n).length≤d+1
 |0,n,h=>by rw [Lib.decDigits,dif_pos (by omega)];simp
 |d+1,n,h=>by
  by_cases hn:n<10
  ·rw [Lib.decDigits,dif_pos hn];simp
  ·rw [Lib.decDigits,dif_neg hn,List.length_append,List.length_singleton]
   have:=dec_len2 d (n/10) (by rw [Nat.pow_succ] at h;omega)
   omega
theorem below_digits (m:Nat) (hm:m≤4000000000000):∀w:World,Calls Tryz.prog 31 #[.int .i64 (-(m:Int))] w fun e w'=>e= .returned (.string ⟨(Lib.decDigits m).toArray⟩)∧Below w.heap.size w w':=by
 induction m using Nat.strongRecOn with
 |_ m ih=>
  intro w
  by_cases h:m<10
  ·have HB:Hid (∀W,Calls Tryz.prog 62 #[.int .i64 (48+(m:Int))] W fun e w'=>e= .returned (.string ⟨#[UInt8.ofNat (48+m)]⟩)∧Below W.heap.size W w'):=Lib.hid fun W=>by
    have:=byte_any (48+m) (by omega) W
    rwa [show ((48+m:Nat):Int)=48+(m:Int) by omega] at this
   have hd:Lib.decDigits m=[UInt8.ofNat (48+m)]:=Lib.decDigits_one h
   rw [hd]
   have d1:decide (-(m:Int)> -10)=true:=by simp;omega
   clear ih hd
   generalize UInt8.ofNat (48+m)=y at*
   go_enter Tryz.func31,Tryz.ntmps31
   go_wp2_with fail
   refine (HB.out _).mono ?_
   rintro e w1 ⟨rfl,hb1⟩
   go_wp2
   go_ret
   exact ⟨rfl,hb1⟩
  ·have HI:Hid (∀W,Calls Tryz.prog 31 #[.int .i64 (-((m:Int)/10))] W fun e w'=>e= .returned (.string ⟨(Lib.decDigits (m/10)).toArray⟩)∧Below W.heap.size W w'):=Lib.hid fun W=>by
    have:=ih (m/10) (by omega) (by omega) W
    rwa [show (((m/10:Nat)):Int)=(m:Int)/10 by omega] at this
   have HB:Hid (∀W,Calls Tryz.prog 62 #[.int .i64 (48+(m:Int)%10)] W fun e w'=>e= .returned (.string ⟨#[UInt8.ofNat (48+m%10)]⟩)∧Below W.heap.size W w'):=Lib.hid fun W=>by
    have:=byte_any (48+m%10) (by omega) W
    rwa [show ((48+m%10:Nat):Int)=48+(m:Int)%10 by omega] at this
   have hd:Lib.decDigits m=Lib.decDigits (m/10)++[UInt8.ofNat (48+m%10)]:=by rw [Lib.decDigits,dif_neg h]
   rw [hd]
   have hl:(Lib.decDigits (m/10)).length≤13:=dec_len2 12 (m/10) (by omega)
   clear hd
   generalize UInt8.ofNat (48+m%10)=y at*
   generalize Lib.decDigits (m/10)=D at*
   have d1:decide (-(m:Int)> -10)=false:=by simp;omega
   clear ih
   go_enter Tryz.func31,Tryz.ntmps31
   go_wp2_with fail
   refine (HI.out _).mono ?_
   rintro e w1 ⟨rfl,hb1⟩
   go_wp2_with fail
   refine (HB.out _).mono ?_
   rintro e w2 ⟨rfl,hb2⟩
   go_wp2
   go_ret
   exact ⟨congrArg (fun x=>Ending.returned (.string x)) (ba_app D [y]),zaa hb1 hb2⟩
theorem zb4 (m:Nat) (hm:m≤4000000000000) (w:World):Calls Tryz.prog 16 #[.int .i64 (m:Int)] w fun e w'=>e= .returned (.string ⟨(Lib.itoa (m:Int)).toArray⟩)∧Below w.heap.size w w':=by
 have HB:=Lib.hid (below_digits m hm w)
 rw [Lib.itoa_nonneg]
 have d1:decide ((m:Int)<0)=false:=by simp
 generalize Lib.decDigits m=D at*
 go_enter Tryz.func16,Tryz.ntmps16
 go_wp2_with fail
 refine HB.out.mono ?_
 rintro e w1 ⟨rfl,hb1⟩
 go_wp2
 go_ret
 exact ⟨rfl,hb1⟩
end Go.Proofs.YthkfhfldoniolaaGreatDoor
namespace Go.Proofs.YthkfhfldoniolaaGreatDoor
open Go.RowKit
def lowd (n:Nat):Nat→List UInt8
 |0=>[]
 |i+1=>Hex.hd (n/16^i%16)::lowd n i
theorem lowd_snoc (n:Nat):∀i,lowd n (i+1)=lowd (n/16) i++[Hex.hd (n%16)]
 |0=>by simp [lowd]
 |i+1=>by
  rw [lowd,lowd_snoc n i,lowd,Nat.div_div_eq_div_mul,←Nat.pow_succ']
  rfl
theorem lowd_text:∀(d n:Nat),n<16^(d+1)→lowd n (d+1)=Hex.text n (d+1)
 |0,n,h=>by
  have h1:n<16:=by simpa using h
  rw [lowd_snoc,lowd,Hex.text,Hex.wr_lo h1,Nat.mod_eq_of_lt h1]
  rfl
 |d+1,n,h=>by
  rw [lowd_snoc,lowd_text d (n/16) (by rw [Nat.pow_succ] at h;omega)]
  unfold Hex.text
  by_cases h1:n<16
  ·rw [Hex.wr_lo h1,Nat.div_eq_of_lt h1,Hex.wr_lo (by omega:0<16),Nat.mod_eq_of_lt h1]
   simp only [List.length_singleton,Nat.add_sub_cancel]
   rw [List.replicate_succ']
   rfl
  ·rw [Hex.wr_hi h1,List.length_append,List.length_singleton,←List.append_assoc]
   congr 3
   omega
theorem lowd_len (n:Nat):∀i,(lowd n i).length=i
 |0=>rfl
 |i+1=>by rw [lowd,List.length_cons,lowd_len n i]
theorem digit_cut (r:Nat) (h:r<16):(⟨#[48,49,50,51,52,53,54,55,56,57,97,98,99,100,101,102]⟩:ByteArray).extract r (r+1)=⟨#[Hex.hd r]⟩:=by
 have:=(by decide:∀i:Fin 16,(⟨#[48,49,50,51,52,53,54,55,56,57,97,98,99,100,101,102]⟩:ByteArray).extract i.val (i.val+1)=⟨#[Hex.hd i.val]⟩)
 exact this ⟨r,h⟩
theorem refHex_low (n d:Nat) (hn:n<18446744073709551616) (hd:d≤16) (w:World):
 Calls Tryz.prog 71 #[.int .u64 (n:Int),.int .i64 (d:Int)] w fun e w'=>e= .returned (.string ⟨(lowd n d).toArray⟩)∧w=w':=by
 go_enter Tryz.func71,Tryz.ntmps71
 go_wp2
 go_loop [0,5,6,7] (fun nv sv iv _=>∃i:Nat,i≤d∧iv= .int .i64 (i:Int)∧nv= .int .u64 ((n/16^i:Nat):Int)∧sv= .string ⟨(lowd n i).toArray⟩) (fun _ _ iv _=>d- (intOf iv).toNat)
 case atStart=>exact ⟨0,Nat.zero_le _,rfl,by simp,rfl⟩
 case round=>
  obtain ⟨i,hi,rfl,rfl,rfl⟩:=hrel
  by_cases hlt:i<d
  ·have hlt2:(i:Int)<d:=by omega
   have hs:lowd n (i+1)=Hex.hd (n/16^i%16)::lowd n i:=rfl
   have hn1:n/16^(i+1)=n/16^i/16:=by rw [Nat.pow_succ,Nat.div_div_eq_div_mul]
   have hq64:n/16^i<18446744073709551616:=Nat.lt_of_le_of_lt (Nat.div_le_self _ _) hn
   have hll:=lowd_len n i
   generalize n/16^i=q at*
   have hdig:=digit_cut (q%16) (Nat.mod_lt _ (by decide))
   generalize lowd n i=D at*
   have hm16:q%16<16:=Nat.mod_lt _ (by decide)
   have HS:=Lib.hid hs
   have HN:=Lib.hid hn1
   clear hs hn1
   go_wp2
   refine ⟨⟨i+1,by omega,by norm_cast, ?_, ?_⟩,by simp [intOf];omega⟩
   ·rw [HN.out]
    exact congrArg (Value.int .u64) (by omega)
   ·rw [HS.out]
    exact congrArg Value.string (ba_app [Hex.hd (q%16)] D)
  ·obtain rfl:i=d:=by omega
   have hge:¬(i:Int)<i:=by omega
   go_wp2
   go_ret
   exact ⟨rfl,rfl⟩
theorem refHex_any (n d:Nat) (hn:n<18446744073709551616) (hd:d≤16) (h0:0<d) (hnd:n<16^d) (w:World):
 Calls Tryz.prog 71 #[.int .u64 (n:Int),.int .i64 (d:Int)] w fun e w'=>e= .returned (.string ⟨(Hex.text n d).toArray⟩)∧w=w':=by
 obtain ⟨k,rfl⟩:∃k,d=k+1:=⟨d-1,by omega⟩
 have:=refHex_low n (k+1) hn hd w
 rwa [lowd_text k n hnd] at this
end Go.Proofs.YthkfhfldoniolaaGreatDoor
namespace Go.Proofs.YthkfhfldoniolaaGreatDoor
open Go.RowKit
def half (c:BitVec 32) (b:Nat) (k:Nat):BitVec 32:=Crc.steps k (c^^^BitVec.ofNat 32 b)^^^BitVec.ofNat 32 (b/2^k)
theorem half_zero (c:BitVec 32) (b:Nat):half c b 0=c:=by
 unfold half
 rw [show b/2^0=b by simp]
 show (c^^^BitVec.ofNat 32 b)^^^BitVec.ofNat 32 b=c
 rw [BitVec.xor_assoc,BitVec.xor_self,BitVec.xor_zero]
theorem half_end (c:BitVec 32) (b:UInt8):half c b.toNat 8=Crc.byte c b:=by
 unfold half Crc.byte
 have:=b.toNat_lt
 rw [Nat.div_eq_of_lt (by omega)]
 simp
theorem half_bit (c:BitVec 32) (b k:Nat) (hb:b<256):(half c b k).toNat^^^(b/2^k)=(Crc.steps k (c^^^BitVec.ofNat 32 b)).toNat:=by
 have hlt:b/2^k<4294967296:=Nat.lt_of_le_of_lt (Nat.div_le_self _ _) (by omega)
 have e:b/2^k=(BitVec.ofNat 32 (b/2^k)).toNat:=by rw [BitVec.toNat_ofNat,Nat.mod_eq_of_lt hlt]
 rw [e,←BitVec.toNat_xor]
 unfold half
 rw [BitVec.xor_assoc,BitVec.xor_self,BitVec.xor_zero]
theorem half_next (c:BitVec 32) (b k:Nat) (hb:b<256):half c b (k+1)=(half c b k>>>1)^^^(0xEDB88320#32*(Crc.steps k (c^^^BitVec.ofNat 32 b)&&& 1#32)):=by
 have hlt:b/2^k<4294967296:=Nat.lt_of_le_of_lt (Nat.div_le_self _ _) (by omega)
 have e:BitVec.ofNat 32 (b/2^(k+1))=BitVec.ofNat 32 (b/2^k)>>>1:=by
  apply BitVec.eq_of_toNat_eq
  rw [BitVec.toNat_ushiftRight,BitVec.toNat_ofNat,BitVec.toNat_ofNat,Nat.mod_eq_of_lt hlt,Nat.shiftRight_eq_div_pow,Nat.pow_succ,←Nat.div_div_eq_div_mul,Nat.mod_eq_of_lt (by omega)]
 unfold half
 rw [e,BitVec.ushiftRight_xor_distrib]
 show Crc.step _^^^_=_
 unfold Crc.step
 generalize Crc.steps k (c^^^BitVec.ofNat 32 b)=s
 generalize BitVec.ofNat 32 (b/2^k)=t
 rw [BitVec.xor_assoc,BitVec.xor_assoc,BitVec.xor_comm (t>>>1)]
theorem half_even (c:BitVec 32) (b k:Nat) (hb:b<256) (h:((half c b k).toNat^^^(b/2^k))%2=0):(half c b (k+1)).toNat=(half c b k).toNat/2:=by
 rw [half_bit c b k hb] at h
 rw [half_next c b k hb]
 have e:Crc.steps k (c^^^BitVec.ofNat 32 b)&&& 1#32=0#32:=by
  apply BitVec.eq_of_toNat_eq
  rw [BitVec.toNat_and]
  show _&&& 1=_
  rw [Nat.and_one_is_mod,h]
  rfl
 rw [e]
 simp [Nat.shiftRight_eq_div_pow]
theorem half_odd (c:BitVec 32) (b k:Nat) (hb:b<256) (h:((half c b k).toNat^^^(b/2^k))%2=1):(half c b (k+1)).toNat=((half c b k).toNat/2)^^^3988292384:=by
 rw [half_bit c b k hb] at h
 rw [half_next c b k hb]
 have e:Crc.steps k (c^^^BitVec.ofNat 32 b)&&& 1#32=1#32:=by
  apply BitVec.eq_of_toNat_eq
  rw [BitVec.toNat_and]
  show _&&& 1=_
  rw [Nat.and_one_is_mod,h]
  rfl
 rw [e,BitVec.toNat_xor,BitVec.toNat_ushiftRight,Nat.shiftRight_eq_div_pow]
 rfl
theorem xor64 (a b:Nat) (ha:a<4294967296) (hb:b<4294967296):bits .xor .i64 (a:Int) (b:Int)=((a^^^b:Nat):Int):=by
 have h:a^^^b<2^32:=Nat.xor_lt_two_pow (by omega) (by omega)
 have e3:(BitVec.ofNat 64 a^^^BitVec.ofNat 64 b:BitVec 64).toNat=a^^^b:=by
  rw [BitVec.toNat_xor,BitVec.toNat_ofNat,BitVec.toNat_ofNat,Nat.mod_eq_of_lt (by omega),Nat.mod_eq_of_lt (by omega)]
 have e1:BitVec.ofInt 64 (a:Int)=BitVec.ofNat 64 a:=by simp
 have e2:BitVec.ofInt 64 (b:Int)=BitVec.ofNat 64 b:=by simp
 simp only [bits,IntKind.bits,e1,e2]
 show IntKind.i64.wrap (((BitVec.ofNat 64 a^^^BitVec.ofNat 64 b:BitVec 64).toNat:Nat):Int)=_
 rw [e3]
 exact IntWalk.i64_in _ (by omega)
theorem refCrc_any (s:ByteArray) (w:World) (hs:s.size≤maxLen):
 Calls Tryz.prog 118 #[.string s] w fun e w'=>e= .returned (.int .u64 (Crc.sum s.data.toList:Int))∧w=w':=by
 unfold maxLen at hs
 go_enter Tryz.func118,Tryz.ntmps118
 go_wp2
 go_loop [3,4,5,6] (fun cv iv _ _=>∃(i:Nat) (c:BitVec 32),i≤s.size∧iv= .int .i64 (i:Int)∧Hid (c=Crc.crc (s.data.toList.take i))∧cv= .int .i64 (c.toNat:Int)) (fun _ iv _ _=>s.size- (intOf iv).toNat)
 case atStart=>exact ⟨0,0xFFFFFFFF#32,Nat.zero_le _,rfl,Lib.hid rfl,rfl⟩
 case round=>
  obtain ⟨i,c,hi,rfl,hc,rfl⟩:=hrel
  by_cases hlt:i<s.size
  ·have hlt2:(i:Int)<s.size:=by omega
   have hsn:=Lib.hid (take_snocB s i hlt)
   have hb8:=s[i].toNat_lt
   go_wp2
   go_loop [3,5,6] (fun cv jv _=>∃j:Nat,j≤8∧jv= .int .i64 (j:Int)∧cv= .int .i64 ((half c s[i].toNat j).toNat:Int)) (fun _ jv _=>8- (intOf jv).toNat)
   case atStart=>exact ⟨0,Nat.zero_le _,rfl,by rw [half_zero]⟩
   case round=>
    obtain ⟨j,hj,rfl,rfl⟩:=hrel
    by_cases hl8:j<8
    ·have hl8':(j:Int)<8:=by omega
     have hA:=(half c s[i].toNat j).isLt
     have hBd:s[i].toNat/2^j<4294967296:=Nat.lt_of_le_of_lt (Nat.div_le_self _ _) (by omega)
     have kx:=xor64 (half c s[i].toNat j).toNat (s[i].toNat/2^j) hA hBd
     rw [show ((s[i].toNat/2^j:Nat):Int)=(s[i].toNat:Int)/2^j by push_cast;rfl] at kx
     have ky:=xor64 ((half c s[i].toNat j).toNat/2) 3988292384 (by omega) (by omega)
     rw [show (((half c s[i].toNat j).toNat/2:Nat):Int)=((half c s[i].toNat j).toNat:Int)/2 by omega] at ky
     have KX:=Lib.hid kx
     have KY:=Lib.hid ky
     have HE:=Lib.hid (half_even c s[i].toNat j hb8)
     have HO:=Lib.hid (half_odd c s[i].toNat j hb8)
     clear kx ky hA hBd
     go_wp2
     ·rename_i hh
      rw [KX.out,beq_iff_eq,Int.tmod_eq_emod_of_nonneg (Int.natCast_nonneg _)] at hh
      have h1:=HO.out (by omega)
      refine ⟨⟨j+1,by omega,by norm_cast, ?_⟩,by simp [intOf];omega⟩
      rw [h1]
      exact congrArg (Value.int .i64) KY.out
     ·rename_i hh
      rw [KX.out,Int.tmod_eq_emod_of_nonneg (Int.natCast_nonneg _)] at hh
      have hh2:=ne_of_beq_false hh
      have h1:=HE.out (by omega)
      refine ⟨⟨j+1,by omega,by norm_cast, ?_⟩,by simp [intOf];omega⟩
      rw [h1]
      exact congrArg (Value.int .i64) (by omega)
    ·have hl8':¬(j:Int)<8:=by omega
     obtain rfl:j=8:=by omega
     go_wp2
     refine ⟨⟨i+1,half c s[i].toNat 8,by omega,by norm_cast, ?_,rfl⟩,by simp [intOf];omega⟩
     exact Lib.hid (by rw [hsn.out,crc_snoc,←hc.out,half_end])
  ·have hge:¬(i:Int)<s.size:=by omega
   have hk:=hc.out
   rw [List.take_of_length_le (by simpa using (by omega:s.size≤i))] at hk
   have hcl:=c.isLt
   have ky:=Lib.hid (xor64 c.toNat 4294967295 hcl (by omega))
   have hnot:c.toNat^^^4294967295=(~~~ c).toNat:=by
    have:(4294967295#32^^^c)= ~~~ c:=BitVec.allOnes_xor
    rw [←this,BitVec.toNat_xor,Nat.xor_comm]
    rfl
   have hl2:=(~~~ c).isLt
   have HS:Hid (((c.toNat^^^4294967295:Nat):Int)=(Crc.sum s.data.toList:Int)):=Lib.hid (by rw [hnot,hk];rfl)
   have hsl:=Crc.sum_lt s.data.toList
   clear hnot hl2 hk hc
   go_wp2
   refine bodyPost_ret (by simp [results,Tryz.results118,go_sem];rfl) rfl ⟨ret_u64c ?_,rfl⟩
   have e1:=ky.out.trans HS.out
   rw [show ((4294967295:Nat):Int)=4294967295 from rfl] at e1
   rw [e1]
   simp [IntKind.wrap,IntKind.bits,IntKind.signed]
   omega
end Go.Proofs.YthkfhfldoniolaaGreatDoor
namespace Go.Proofs.YthkfhfldoniolaaGreatDoor
open Go.RowKit
def sealOf (l:List UInt8):List UInt8:=l++(za5 (Crc.sum l)++[10])
theorem seal_any (l:List UInt8) (hl:l.length≤100000) (w:World):
 Calls Tryz.prog 72 #[.string ⟨l.toArray⟩] w fun e w'=>e= .returned (.string ⟨(sealOf l).toArray⟩)∧w=w':=by
 have hs:=Crc.sum_lt l
 have hsz:(⟨l.toArray⟩:ByteArray).size=l.length:=by simp [ByteArray.size]
 have HC:Hid (∀W,Calls Tryz.prog 118 #[.string ⟨l.toArray⟩] W fun e w'=>e= .returned (.int .u64 (Crc.sum l:Int))∧W=w'):=Lib.hid fun W=>refCrc_any ⟨l.toArray⟩ W (by rw [hsz];unfold maxLen;omega)
 have HH:=Lib.hid (fun W=>refHex_any (Crc.sum l) 8 (by omega) (by omega) (by omega) (by omega) W)
 have hlen:=Hex.zeS (Crc.sum l) 8 (Hex.zeY 7 _ (by omega))
 have HT:Hid (sealOf l=l++wSum++Hex.text (Crc.sum l) 8++[10]):=Lib.hid (by simp [sealOf,za5])
 generalize sealOf l=S at*
 generalize Hex.text (Crc.sum l) 8=t at*
 generalize Crc.sum l=n at*
 go_enter Tryz.func72,Tryz.ntmps72
 go_wp2_with (first
  |(refine (HC.out _).mono ?_;rintro e w1 ⟨rfl,rfl⟩)
  |(refine (HH.out _).mono ?_;rintro e w1 ⟨rfl,rfl⟩))
 have e:(⟨l.toArray⟩:ByteArray)++⟨#[115,117,109,32]⟩++⟨t.toArray⟩++⟨#[10]⟩=⟨S.toArray⟩:=by
  rw [show (⟨#[115,117,109,32]⟩:ByteArray)=⟨wSum.toArray⟩ from rfl,show (⟨#[10]⟩:ByteArray)=⟨([10]:List UInt8).toArray⟩ from rfl,ba_app,ba_app,ba_app,HT.out]
 go_ret
 exact ⟨congrArg (fun x=>Ending.returned (.string x)) e,rfl⟩
theorem flat_succ2 {L:List Fl} {i:Nat} (h:i<L.length):((L.take (i+1)).map zan).flatMap (fun l=>l++[10])=((L.take i).map zan).flatMap (fun l=>l++[10])++(zan L[i]++[10]):=by
 rw [List.take_succ_eq_append_getElem h,List.map_append,List.flatMap_append]
 simp
theorem flat_len2 {L:List Fl} (h:∀x∈L,FlOk x) (hk:∀x∈L,x.key<18446744073709551616) (i:Nat):(((L.take i).map zan).flatMap fun l=>l++[10]).length≤45*L.length:=by
 have h1:=zfq (L:=L.take i) (fun x hx=>h x (List.mem_of_mem_take hx)) (fun x hx=>hk x (List.mem_of_mem_take hx))
 have:(L.take i).length≤L.length:=by rw [List.length_take];omega
 omega
theorem line_bytes (s h d:List UInt8) (x:ByteArray):(⟨s.toArray⟩:ByteArray)++⟨h.toArray⟩++⟨#[32]⟩++x++⟨#[32]⟩++⟨d.toArray⟩++⟨#[10]⟩=⟨(s++(h++32::(x.data.toList++32::d)++[10])).toArray⟩:=by
 apply ByteArray.ext
 simp only [ByteArray.data_append]
 apply Array.ext'
 simp
set_option maxRecDepth 100000 in
theorem refText_any (ep:Int) (A:Option Addr) (c B:Nat) (xs:List Fl) (w:World) (hr:Reads w B 3 A xs.length (zbr xs)) (hB:B≤w.heap.size) (hk:COk ep xs) (hu:∀x∈xs,U64 x.key):
 Calls Tryz.prog 47 #[.int .i64 ep,.slice A xs.length c] w fun e w'=>e= .returned (.string ⟨(textOf ep xs).toArray⟩)∧Below w.heap.size w w':=by
 have he0:=hk.e0
 have he1:=hk.e1
 have hn:=hk.n
 have HK:=Lib.hid hk.l
 have HU:=Lib.hid hu
 have HR:=Lib.hid hr
 have hbl:=body_len hk hu
 obtain ⟨e,rfl⟩:=Int.eq_ofNat_of_zero_le he0
 have HD:=Lib.hid (fun W=>zb4 e (by omega) W)
 have HN:=Lib.hid (fun W=>zb4 xs.length (by omega) W)
 have hl1:=zcA (n:=(e:Int)) (by omega) (by omega)
 have hl2:=zcA (n:=(xs.length:Int)) (by omega) (by omega)
 have hh:(zau (e:Int) xs.length).length≤33:=by
  unfold zau ze7
  simp only [List.length_append,List.length_cons,List.length_nil]
  omega
 have HH:Hid ((⟨#[102,108,111,119,115,32]⟩:ByteArray)++⟨(Lib.itoa (e:Int)).toArray⟩++⟨#[32]⟩++⟨(Lib.itoa (xs.length:Int)).toArray⟩++⟨#[10]⟩=⟨(zau (e:Int) xs.length++[10]++((xs.take 0).map zan).flatMap fun l=>l++[10]).toArray⟩):=Lib.hid (by
  apply ByteArray.ext
  simp only [ByteArray.data_append]
  apply Array.ext'
  simp [zau,ze7])
 have HF:Hid (∀W,Calls Tryz.prog 72 #[.string ⟨(zau (e:Int) xs.length++[10]++((xs.take xs.length).map zan).flatMap fun l=>l++[10]).toArray⟩] W fun r w'=>r= .returned (.string ⟨(textOf (e:Int) xs).toArray⟩)∧W=w'):=Lib.hid fun W=>by
  have hbd:zau (e:Int) xs.length++[10]++((xs.take xs.length).map zan).flatMap (fun l=>l++[10])=za4 (e:Int) xs:=by
   rw [List.take_length];simp [za4]
  rw [hbd]
  exact seal_any _ (by omega) W
 clear hr hu hk
 go_enter Tryz.func47,Tryz.ntmps47
 go_wp2_with fail
 refine (HD.out _).mono ?_
 rintro r w1 ⟨rfl,hb1⟩
 go_wp2_with fail
 refine (HN.out _).mono ?_
 rintro r w2 ⟨rfl,hb2⟩
 have hb12:=Lib.hid (zaa hb1 hb2)
 clear hb1 hb2
 go_wp2_with fail
 go_loopw [5,6] (fun sv iv wr=>∃i:Nat,i≤xs.length∧iv= .int .i64 (i:Int)∧sv= .string ⟨(zau (e:Int) xs.length++[10]++((xs.take i).map zan).flatMap fun l=>l++[10]).toArray⟩∧Hid (Below w.heap.size w wr)) (fun _ iv _=>xs.length+1- (intOf iv).toNat)
 case atStart=>exact ⟨0,Nat.zero_le _,rfl,congrArg Value.string HH.out,hb12⟩
 case round=>
  obtain ⟨i,hi,rfl,rfl,hb⟩:=hrel
  clear HD HN HH hl1 hl2
  by_cases hil:i<xs.length
  ·have hil2:(i:Int)<xs.length:=by omega
   obtain ⟨ad,rfl,a0,a1,a2⟩:=cellsA (HR.out.keep fun p hp=>hb.out.cell (by omega)) hil
   have hlt:=World.block_lt_of_cell? _ _ a0
   have hFl:=HK.out _ (List.getElem_mem hil)
   have hU:=HU.out _ (List.getElem_mem hil)
   have hfs:=flat_succ2 hil
   have hfl:=flat_len2 HK.out HU.out i
   generalize xs[i]=x at*
   have ht0:=hFl.2.1
   have ht1:=hFl.2.2
   obtain ⟨k,ho,tl⟩:=x
   simp only at ht0 ht1 a0 a1 a2 hU
   obtain ⟨t,rfl⟩:=Int.eq_ofNat_of_zero_le ht0
   have HX:=Lib.hid (fun W=>refHex_any k 16 hU (by omega) (by omega) hU W)
   have HD:=Lib.hid (fun W=>zb4 t (by omega) W)
   have hl16:=Hex.zeS k 16 (Hex.zeY 15 _ hU)
   have hl13:=zcA (n:=(t:Int)) (by omega) (by omega)
   have hnm:=name_len hFl.1
   have hnm2:ho.size≤12:=by simpa using hnm
   have HT:Hid (∀s:List UInt8,(⟨s.toArray⟩:ByteArray)++⟨(Hex.text k 16).toArray⟩++⟨#[32]⟩++ho++⟨#[32]⟩++⟨(Lib.itoa (t:Int)).toArray⟩++⟨#[10]⟩=⟨(s++(zan ⟨k,ho,(t:Int)⟩++[10])).toArray⟩):=Lib.hid fun s=>line_bytes s _ _ ho
   have hacc:(zau (e:Int) xs.length++[10]++((xs.take i).map zan).flatMap fun l=>l++[10]).length≤9100:=by
    simp only [List.length_append,List.length_singleton]
    omega
   have HS:Hid (zau (e:Int) xs.length++[10]++((xs.take (i+1)).map zan).flatMap (fun l=>l++[10])=zau (e:Int) xs.length++[10]++((xs.take i).map zan).flatMap (fun l=>l++[10])++(zan ⟨k,ho,(t:Int)⟩++[10])):=Lib.hid (by rw [hfs];simp only [List.append_assoc])
   clear hfs hfl hFl hnm
   generalize zau (e:Int) xs.length++[10]++((xs.take i).map zan).flatMap (fun l=>l++[10])=acc at*
   generalize Hex.text k 16=hx at*
   generalize Lib.itoa (t:Int)=dt at*
   have s1:¬9223372036854775807<acc.length+16:=by omega
   have s2:¬9223372036854775807<acc.length+16+1:=by omega
   have s3:¬9223372036854775807<acc.length+16+1+ho.size:=by omega
   have s4:¬9223372036854775807<acc.length+16+1+ho.size+1:=by omega
   have s5:¬9223372036854775807<acc.length+16+1+ho.size+1+dt.length:=by omega
   have s6:¬9223372036854775807<acc.length+16+1+ho.size+1+dt.length+1:=by omega
   have HKP:Hid (∀W,Below wr.heap.size wr W→Below wr.heap.size wr W∧W.cell? (ad.add (i*3))=some (.int .u64 (k:Int))∧W.cell? ⟨(ad.add (i*3)).block,(ad.add (i*3)).off+1,none⟩=some (.string ho)∧W.cell? ⟨(ad.add (i*3)).block,(ad.add (i*3)).off+2,none⟩=some (.int .i64 (t:Int))):=Lib.hid fun W hw=>⟨hw,(hw.cell hlt).trans a0,(hw.cell (p:=⟨(ad.add (i*3)).block,(ad.add (i*3)).off+1,none⟩) hlt).trans a1,(hw.cell (p:=⟨(ad.add (i*3)).block,(ad.add (i*3)).off+2,none⟩) hlt).trans a2⟩
   go_wp2_with fail
   go_region_held3 (fun W=>Below wr.heap.size wr W∧W.cell? (ad.add (i*3))=some (.int .u64 (k:Int))∧W.cell? ⟨(ad.add (i*3)).block,(ad.add (i*3)).off+1,none⟩=some (.string ho)∧W.cell? ⟨(ad.add (i*3)).block,(ad.add (i*3)).off+2,none⟩=some (.int .i64 (t:Int))) (first|exact HKP.out _ hb9|exact HKP.out _ (zad (Below.refl _ _))|exact HKP.out _ (Below.refl _ _)|go_keep) (first
    |(go_at_call 71
      refine (HX.out _).mono ?_
      rintro r w8 ⟨rfl,rfl⟩)
    |(go_at_call 16
      refine (HD.out _).mono ?_
      rintro r w9 ⟨rfl,hb9'⟩
      have hb9:=zaa (zad (Below.refl wr.heap.size wr)) hb9'))
   all_goals
    go_wp2_with fail
    go_roundw
    case rel=>exact ⟨i+1,by omega,by go_num,(congrArg Value.string (HT.out acc)).trans (by rw [HS.out]),Lib.hid (hb.out.trans (hb9.mono hb.out.size))⟩
    case measure=>simp [intOf];omega
  ·obtain rfl:i=xs.length:=by omega
   have hge:¬(xs.length:Int)<xs.length:=by omega
   generalize zau (e:Int) xs.length++[10]++((xs.take xs.length).map zan).flatMap (fun l=>l++[10])=acc at*
   go_wp2_with fail
   refine (HF.out _).mono ?_
   rintro r w3 ⟨rfl,rfl⟩
   go_wp2
   go_ret
   exact ⟨rfl,hb.out⟩
end Go.Proofs.YthkfhfldoniolaaGreatDoor
