/-
  Turn by plain numbers of 64 bits, and that it can be turned back. The walks of package mix: Turn. The walk of mix.Of. Rings by plain lists: points in order, and what comes next from a place on.
-/
import Derived.Test.YthkfhfldoniolaaGreatDoorBaseA
import Derived.Test.YthkfhfldoniolaaGreatDoorTexts
import Derived.Sort.Walk0
set_option maxHeartbeats 1000000
namespace Go.Proofs.YthkfhfldoniolaaGreatDoor
namespace Mx
def turnB (z:BitVec 64):BitVec 64:=
 let z:=z+0x9E3779B97F4A7C15#64
 let z:=(z^^^z>>>30)*0xBF58476D1CE4E5B9#64
 let z:=(z^^^z>>>27)*0x94D049BB133111EB#64
 z^^^z>>>31
def turn (k:Nat):Nat:=(turnB (BitVec.ofNat 64 k)).toNat
theorem turn_lt (k:Nat):turn k<18446744073709551616:=(turnB (BitVec.ofNat 64 k)).isLt
end Mx
end Go.Proofs.YthkfhfldoniolaaGreatDoor
namespace Go.Proofs.YthkfhfldoniolaaGreatDoor
open Go.RowKit
theorem ret_u64 {a b:Int} (h:a=b):Ending.returned (.int .u64 a)= .returned (.int .u64 b):=by rw [h]
theorem bv_of (k:Nat) (hk:U64 k):(BitVec.ofNat 64 k).toNat=k:=by
 rw [BitVec.toNat_ofNat];exact Nat.mod_eq_of_lt hk
theorem bv_xor (a b:BitVec 64):bits .xor .u64 (a.toNat:Int) (b.toNat:Int)=((a^^^b).toNat:Int):=by
 rw [bits_xor_u64_nat _ _ a.isLt b.isLt,BitVec.toNat_xor]
theorem bv_add (a:BitVec 64) (c:Nat):IntKind.u64.wrap ((a.toNat:Int)+(c:Int))=((a+BitVec.ofNat 64 c).toNat:Int):=by
 rw [IntKind.wrap_u64,BitVec.toNat_add,BitVec.toNat_ofNat];omega
theorem bv_mul (a:BitVec 64) (c:Nat):IntKind.u64.wrap ((a.toNat:Int)*(c:Int))=((a*BitVec.ofNat 64 c).toNat:Int):=by
 rw [IntKind.wrap_u64,BitVec.toNat_mul,BitVec.toNat_ofNat,Nat.mul_mod_mod,Int.natCast_emod,Int.natCast_mul];rfl
theorem bv_shr (a:BitVec 64) (s:Nat):((a.toNat:Int)/((2^s:Nat):Int))=((a>>>s).toNat:Int):=by
 rw [BitVec.toNat_ushiftRight,Nat.shiftRight_eq_div_pow,Int.natCast_ediv]
theorem add_G (a:BitVec 64):IntKind.u64.wrap ((a.toNat:Int)+(11400714819323198485:Int))=((a+0x9E3779B97F4A7C15#64).toNat:Int):=bv_add a 0x9E3779B97F4A7C15
theorem mul_1 (a:BitVec 64):IntKind.u64.wrap ((a.toNat:Int)*(13787848793156543929:Int))=((a*0xBF58476D1CE4E5B9#64).toNat:Int):=bv_mul a 0xBF58476D1CE4E5B9
theorem mul_2 (a:BitVec 64):IntKind.u64.wrap ((a.toNat:Int)*(10723151780598845931:Int))=((a*0x94D049BB133111EB#64).toNat:Int):=bv_mul a 0x94D049BB133111EB
theorem shr_27 (a:BitVec 64):((a.toNat:Int)/(134217728:Int))=((a>>>27).toNat:Int):=bv_shr a 27
theorem shr_30 (a:BitVec 64):((a.toNat:Int)/(1073741824:Int))=((a>>>30).toNat:Int):=bv_shr a 30
theorem shr_31 (a:BitVec 64):((a.toNat:Int)/(2147483648:Int))=((a>>>31).toNat:Int):=bv_shr a 31
theorem turn_bv (x:BitVec 64) (w:World):Calls Tryz.prog 176 #[.int .u64 (x.toNat:Int)] w fun e w'=>e= .returned (.int .u64 ((Mx.turnB x).toNat:Int))∧w=w':=by
 go_enter Tryz.func176,Tryz.ntmps176
 go_wp2
 go_ret
 exact ⟨ret_u64 (by simp only [add_G,shr_30,bv_xor,mul_1,shr_27,mul_2,shr_31];rfl),rfl⟩
theorem zeU (k:Nat) (w:World) (hk:U64 k):Calls Tryz.prog 176 #[.int .u64 (k:Int)] w fun e w'=>e= .returned (.int .u64 ((Mx.turn k:Nat):Int))∧w=w':=by
 have h:=turn_bv (BitVec.ofNat 64 k) w
 rw [bv_of k hk] at h
 exact h
end Go.Proofs.YthkfhfldoniolaaGreatDoor
namespace Go.Proofs.YthkfhfldoniolaaGreatDoor
open Go.RowKit
def zfb (l:List Nat):BitVec 64:=l.foldl (fun h b=>(h^^^BitVec.ofNat 64 b)*1099511628211#64) 14695981039346656037#64
theorem hashB_snoc (l:List Nat) (b:Nat):zfb (l++[b])=(zfb l^^^BitVec.ofNat 64 b)*1099511628211#64:=by simp [zfb,List.foldl_append]
def ofN (s:ByteArray) (salt:Nat):Nat:=Mx.turn (zfb (nums s)^^^BitVec.ofNat 64 (Mx.turn salt)).toNat
theorem ofN_lt (s:ByteArray) (salt:Nat):U64 (ofN s salt):=Mx.turn_lt _
theorem turn_u64 (k:Nat):U64 (Mx.turn k):=Mx.turn_lt k
theorem bv_u64 (x:BitVec 64):U64 x.toNat:=x.isLt
theorem mul_P (a:BitVec 64):IntKind.u64.wrap ((a.toNat:Int)*(1099511628211:Int))=((a*1099511628211#64).toNat:Int):=bv_mul a 1099511628211
theorem xor_nat (a:BitVec 64) (b:Nat) (hb:U64 b):bits .xor .u64 (a.toNat:Int) (b:Int)=((a^^^BitVec.ofNat 64 b).toNat:Int):=by
 have:=bv_xor a (BitVec.ofNat 64 b)
 rwa [bv_of b hb] at this
theorem byte_u64 (b:UInt8):U64 b.toNat:=Nat.lt_trans b.toNat_lt (by decide)
theorem nums_get (s:ByteArray) {k:Nat} (hk:k<s.size):(nums s)[k]'(by rw [nums_length];exact hk)=s[k].toNat:=by simp [nums];rfl
theorem hash_step (s:ByteArray) {k:Nat} (hk:k<s.size):IntKind.u64.wrap (bits .xor .u64 ((zfb ((nums s).take k)).toNat:Int) (s[k].toNat:Int)*(1099511628211:Int))=((zfb ((nums s).take (k+1))).toNat:Int):=by
 have hkn:k<(nums s).length:=by rw [nums_length];exact hk
 have e:zfb ((nums s).take (k+1))=(zfb ((nums s).take k)^^^BitVec.ofNat 64 s[k].toNat)*1099511628211#64:=by
  rw [List.take_succ_eq_append_getElem hkn,hashB_snoc,nums_get s hk]
 rw [e,xor_nat _ _ (byte_u64 _)]
 exact mul_P _
theorem hash_zero (s:ByteArray):((zfb ((nums s).take 0)).toNat:Int)=14695981039346656037:=by
 show (((14695981039346656037#64:BitVec 64).toNat:Nat):Int)=_
 rw [BitVec.toNat_ofNat];decide
theorem meas_k {n k:Nat} (h:k<n):n- (intOf (.int .i64 ((k:Int)+1))).toNat<n- (intOf (.int .i64 (k:Int))).toNat:=by simp [intOf];omega
def zcD (n:Nat) (w:World) (e:Ending) (w':World):Prop:=e= .returned (.int .u64 (n:Int))∧w=w'
theorem wrap_byte (b:UInt8):IntKind.u64.wrap (b.toNat:Int)=(b.toNat:Int):=by
 have h:b.toNat<256:=b.toNat_lt
 rw [IntKind.wrap_u64]
 exact Int.emod_eq_of_lt (by omega) (Int.lt_trans (Int.ofNat_lt.2 h) (by decide))
def ze4 (s:ByteArray) (k:Nat) (c:Int):Prop:=c=((zfb ((nums s).take k)).toNat:Int)
theorem hashIs_zero (s:ByteArray):ze4 s 0 14695981039346656037:=(hash_zero s).symm
theorem hashIs_step {s:ByteArray} {k:Nat} {c:Int} (h:ze4 s k c) (hk:k<s.size):ze4 s (k+1) (IntKind.u64.wrap (bits .xor .u64 c (IntKind.u64.wrap (s[k].toNat:Int))*(1099511628211:Int))):=by
 unfold ze4 at h ⊢
 rw [h,wrap_byte]
 exact hash_step s hk
theorem hashIs_end {s:ByteArray} {c:Int} (h:ze4 s s.size c) (salt:Nat):bits .xor .u64 c ((Mx.turn salt:Nat):Int)=((zfb (nums s)^^^BitVec.ofNat 64 (Mx.turn salt)).toNat:Int):=by
 unfold ze4 at h
 rw [h,List.take_of_length_le (by rw [nums_length];exact Nat.le_refl _)]
 exact xor_nat _ _ (turn_u64 salt)
set_option maxRecDepth 100000 in
theorem of_any (s:ByteArray) (salt:Nat) (w:World) (hs:s.size≤maxLen) (hk:U64 salt):Calls Tryz.prog 138 #[.string s,.int .u64 (salt:Int)] w (zcD (ofN s salt) w):=by
 unfold maxLen at hs
 have HT:=Lib.hid (fun W=>zeU salt W hk)
 have HE:Hid (∀W,Calls Tryz.prog 176 #[.int .u64 ((zfb (nums s)^^^BitVec.ofNat 64 (Mx.turn salt)).toNat:Int)] W (zcD (ofN s salt) W)):=Lib.hid (fun W=>zeU (zfb (nums s)^^^BitVec.ofNat 64 (Mx.turn salt)).toNat W (bv_u64 _))
 have HX:=Lib.hid (fun c (h:ze4 s s.size c)=>hashIs_end h salt)
 have H0:=Lib.hid (hashIs_zero s)
 generalize Mx.turn salt=ts at*
 clear hk
 go_enter Tryz.func138,Tryz.ntmps138
 go_wp2_with fail
 go_loop [5,6,9] (fun hv _ iv=>∃(k:Nat) (c:Int),k≤s.size∧iv= .int .i64 (k:Int)∧hv= .int .u64 c∧Hid (ze4 s k c)) (fun _ _ iv=>s.size- (intOf iv).toNat)
 case atStart=>exact ⟨0,_,Nat.zero_le _,rfl,rfl,H0⟩
 case round=>
  obtain ⟨k,c,hk,rfl,rfl,hc⟩:=hrel
  clear H0
  by_cases hlt:k<s.size
  ·have hlt2:(k:Int)<s.size:=by omega
   have HS:=Lib.hid (hashIs_step hc.out hlt)
   go_wp2
   go_round
   case rel=>exact ⟨k+1,_,Nat.succ_le_of_lt hlt,by go_num,rfl,HS⟩
   case measure=>exact meas_k hlt
  ·obtain rfl:k=s.size:=by omega
   have hge:¬(s.size:Int)<s.size:=by omega
   go_wp2_with fail
   refine (HT.out _).mono ?_
   rintro e w1 ⟨rfl,rfl⟩
   go_wp2_with fail
   rw [HX.out _ hc.out]
   refine (HE.out _).mono ?_
   rintro e w1 ⟨rfl,rfl⟩
   go_wp2
   go_ret
   exact ⟨rfl,rfl⟩
end Go.Proofs.YthkfhfldoniolaaGreatDoor
namespace Go.Proofs.YthkfhfldoniolaaGreatDoor
structure Pt where
 at_:Nat
 host:ByteArray
instance :Inhabited Pt:=⟨⟨0,ByteArray.empty⟩⟩
theorem Pt.eq {a b:Pt} (h1:a.at_=b.at_) (h2:a.host=b.host):a=b:=by cases a;cases b;simp_all
def ltB (a b:ByteArray):Bool:=Op.bytesLess a.toList b.toList
theorem ltB_iff (a b:ByteArray):ltB a b=true↔a.data.toList<b.data.toList:=by
 unfold ltB
 rw [bytesLess_eq,Lib.toList_data,Lib.toList_data];simp
theorem zeM (a:ByteArray):ltB a a=false:=by
 rw [Bool.eq_false_iff,ne_eq,ltB_iff];exact List.lt_irrefl _
theorem zfC {a b c:ByteArray} (h1:ltB a b=true) (h2:ltB b c=true):ltB a c=true:=by
 rw [ltB_iff] at*;exact List.lt_trans h1 h2
theorem ba_ext {a b:ByteArray} (h:a.data.toList=b.data.toList):a=b:=by
 cases a;cases b
 simp only at h
 congr
 exact Array.toList_inj.1 h
theorem ltB_tri {a b:ByteArray} (h1:ltB a b=false) (h2:ltB b a=false):a=b:=by
 have h1':¬a.data.toList<b.data.toList:=fun h=>by rw [(ltB_iff a b).2 h] at h1;cases h1
 have h2':¬b.data.toList<a.data.toList:=fun h=>by rw [(ltB_iff b a).2 h] at h2;cases h2
 exact ba_ext (List.le_antisymm (List.not_lt.1 h2') (List.not_lt.1 h1'))
theorem ltB_ntrans {a b c:ByteArray} (h1:ltB a b=false) (h2:ltB b c=false):ltB a c=false:=by
 rw [Bool.eq_false_iff] at*
 intro h
 cases hba:ltB b a with
 |true=>exact h2 (zfC hba h)
 |false=>
  have:a=b:=ltB_tri (by simpa using h1) hba
  subst this
  exact h2 h
theorem ltB_asymm {a b:ByteArray} (h:ltB a b=true):ltB b a=false:=by
 rw [Bool.eq_false_iff];intro h'
 have:=zfC h h'
 rw [zeM] at this;cases this
def ltP (x y:Pt):Bool:=decide (x.at_<y.at_)||(decide (x.at_=y.at_)&&ltB x.host y.host)
theorem ltP_tri {x y:Pt} (h1:ltP x y=false) (h2:ltP y x=false):x=y:=by
 simp only [ltP,Bool.or_eq_false_iff,Bool.and_eq_false_iff,decide_eq_false_iff_not] at h1 h2
 have e:x.at_=y.at_:=by omega
 rcases h1.2 with h|h
 ·exact absurd e h
 ·rcases h2.2 with h'|h'
  ·exact absurd e.symm h'
  ·exact Pt.eq e (ltB_tri h h')
theorem ltP_irrefl (x:Pt):ltP x x=false:=by simp [ltP,zeM]
theorem zfD {x y z:Pt} (h1:ltP x y=true) (h2:ltP y z=true):ltP x z=true:=by
 simp only [ltP,Bool.or_eq_true,Bool.and_eq_true,decide_eq_true_eq] at*
 rcases h1 with h1|⟨h1,g1⟩<;>rcases h2 with h2|⟨h2,g2⟩
 ·exact .inl (by omega)
 ·exact .inl (by omega)
 ·exact .inl (by omega)
 ·exact .inr ⟨by omega,zfC g1 g2⟩
theorem ltP_ntrans {x y z:Pt} (h1:ltP x y=false) (h2:ltP y z=false):ltP x z=false:=by
 cases hyx:ltP y x with
 |false=>rw [ltP_tri h1 hyx];exact h2
 |true=>
  rw [Bool.eq_false_iff] at*
  intro h
  exact h2 (zfD hyx h)
theorem ltP_at {x y:Pt} (h:ltP y x=false):x.at_≤y.at_:=by
 simp only [ltP,Bool.or_eq_false_iff,decide_eq_false_iff_not] at h;omega
def IsSort (l s:List Pt):Prop:=s.Perm l∧s.Pairwise fun a b=>ltP b a=false
theorem IsSort.unique {l s s':List Pt} (h:IsSort l s) (h':IsSort l s'):s=s':=
 List.Perm.eq_of_pairwise (le:=fun a b=>ltP b a=false) (fun _ _ _ _ h1 h2=>ltP_tri h2 h1) h.2 h'.2 (h.1.trans h'.1.symm)
def zaQ (l:List ByteArray) (copies:Nat):List Pt:=l.flatMap fun h=>(List.range copies).map fun c=>⟨ofN h (1000+c),h⟩
theorem zbQ (l:List ByteArray) (copies:Nat):(zaQ l copies).length=l.length*copies:=by
 unfold zaQ
 induction l with
 |nil=>simp
 |cons h l ih=>rw [List.flatMap_cons,List.length_append,ih];simp [Nat.add_mul,Nat.add_comm]
theorem pointsOf_mem {l:List ByteArray} {copies:Nat} {x:ByteArray} (hx:x∈l) (hc:1≤copies):∃p∈zaQ l copies,p.host=x:=by
 refine ⟨⟨ofN x (1000+0),x⟩, ?_,rfl⟩
 unfold zaQ
 exact List.mem_flatMap.2 ⟨x,hx,List.mem_map.2 ⟨0,List.mem_range.2 (by omega),rfl⟩⟩
def around (t:Nat) (s:List Pt):List ByteArray:=(s.filter (fun p=>decide (t≤p.at_))++s.filter (fun p=>decide (p.at_<t))).map (·.host)
def FirstAt (t:Nat) (s:List Pt) (k:Nat):Prop:=k≤s.length∧(∀(j:Nat) (p:Pt),j<k→s[j]? =some p→p.at_<t)∧∀(j:Nat) (p:Pt),k≤j→s[j]? =some p→t≤p.at_
theorem filter_split {t:Nat} {s:List Pt} {k:Nat} (h:FirstAt t s k):s.filter (fun p=>decide (t≤p.at_))=s.drop k∧s.filter (fun p=>decide (p.at_<t))=s.take k:=by
 have hd:∀p∈s.drop k,t≤p.at_:=fun p hp=>by
  obtain ⟨j,hj,rfl⟩:=List.mem_iff_getElem.1 hp
  have:=h.2.2 (k+j) ((s.drop k)[j]) (by omega) (by rw [←List.getElem?_drop];exact List.getElem?_eq_getElem hj)
  exact this
 have ht:∀p∈s.take k,p.at_<t:=fun p hp=>by
  obtain ⟨j,hj,rfl⟩:=List.mem_iff_getElem.1 hp
  rw [List.length_take] at hj
  exact h.2.1 j _ (by omega) (by rw [List.getElem_take];exact List.getElem?_eq_getElem (by omega))
 have e:=List.take_append_drop k s
 constructor
 ·conv=>lhs;rw [←e]
  rw [List.filter_append,List.filter_eq_nil_iff.2 (fun p hp=>by have:=ht p hp;simp;omega),List.nil_append,List.filter_eq_self.2 (fun p hp=>by simpa using hd p hp)]
 ·conv=>lhs;rw [←e]
  rw [List.filter_append,List.filter_eq_self.2 (fun p hp=>by simpa using ht p hp),List.filter_eq_nil_iff.2 (fun p hp=>by have:=hd p hp;simp;omega),List.append_nil]
theorem around_at {t:Nat} {s:List Pt} {k:Nat} (h:FirstAt t s k) {i:Nat} (hi:i<s.length):(around t s)[i]? =some (s[(k%s.length+i)%s.length]'(Nat.mod_lt _ (by omega))).host:=by
 obtain ⟨h1,h2⟩:=filter_split h
 unfold around
 rw [h1,h2,List.getElem?_map]
 have hk:=h.1
 suffices hh:(s.drop k++s.take k)[i]? =some (s[(k%s.length+i)%s.length]'(Nat.mod_lt _ (by omega))) by rw [hh];rfl
 rcases Nat.lt_or_ge k s.length with hlt|hge
 ·rw [Nat.mod_eq_of_lt hlt]
  by_cases hik:i<s.length-k
  ·rw [List.getElem?_append_left (by rw [List.length_drop];exact hik),List.getElem?_drop]
   rw [List.getElem?_eq_getElem (by omega)]
   congr 2
   exact (Nat.mod_eq_of_lt (by omega)).symm
  ·rw [List.getElem?_append_right (by rw [List.length_drop];omega),List.length_drop,List.getElem?_take_of_lt (by omega)]
   rw [List.getElem?_eq_getElem (by omega)]
   congr 2
   rw [Nat.mod_eq_sub_mod (by omega),Nat.mod_eq_of_lt (by omega)]
   omega
 ·have e:k=s.length:=by omega
  subst e
  rw [Nat.mod_self,Nat.zero_add]
  rw [List.drop_length,List.nil_append,List.take_length,List.getElem?_eq_getElem hi]
  congr 2
  exact (Nat.mod_eq_of_lt hi).symm
theorem mem_around {t:Nat} {s:List Pt} {x:ByteArray}:x∈around t s↔∃p∈s,p.host=x:=by
 unfold around
 simp only [List.mem_map,List.mem_append,List.mem_filter,decide_eq_true_eq]
 constructor
 ·rintro ⟨p,h|h,hx⟩<;>exact ⟨p,h.1,hx⟩
 ·rintro ⟨p,hp,hx⟩
  rcases Nat.lt_or_ge p.at_ t with h|h
  ·exact ⟨p,.inr ⟨hp,h⟩,hx⟩
  ·exact ⟨p,.inl ⟨hp,h⟩,hx⟩
def zbd (many:Int):List ByteArray→List ByteArray→List ByteArray
 |out,[]=>out
 |out,x::r=>if many≤out.length then out else if has out x=true then zbd many out r else zbd many (out++[x]) r
theorem zdQ {many:Int} {out:List ByteArray} (h:many≤out.length):∀r:List ByteArray,zbd many out r=out
 |[]=>rfl
 |x::r=>by rw [zbd,if_pos h]
theorem nextGo_skip {many:Int} {out r:List ByteArray} {x:ByteArray} (h:¬many≤out.length) (hx:has out x=true):zbd many out (x::r)=zbd many out r:=by rw [zbd,if_neg h,if_pos hx]
theorem nextGo_more {many:Int} {out r:List ByteArray} {x:ByteArray} (h:¬many≤out.length) (hx:has out x=false):zbd many out (x::r)=zbd many (out++[x]) r:=by
 rw [zbd,if_neg h,if_neg (by rw [hx];decide)]
end Go.Proofs.YthkfhfldoniolaaGreatDoor
