/-
  The walks of the reference's words on hosts: LongHosts, IsName, Index, SameTexts, HostsFault. The walks of the reference's Bare and Fine. The walks of the reference's faults: Bare, Fine, HostsFault, HealthFault; SameTexts.
-/
import Derived.Test.YthkfhfldoniolaaGreatDoorTexts
import Derived.Test.YthkfhfldoniolaaGreatDoorLists
set_option maxHeartbeats 4000000
namespace Go.Proofs.YthkfhfldoniolaaGreatDoor
open Go.RowKit
def zeW (l:List ByteArray):Bool:=decide (30<l.length)||l.any fun s=>decide (60<s.size)
theorem long_no {l:List ByteArray} (h:zeW l=false):l.length≤30∧∀s∈l,s.size≤60:=by
 unfold zeW at h
 rw [Bool.or_eq_false_iff,List.any_eq_false] at h
 exact ⟨by simpa using h.1,fun s hs=>by simpa using h.2 s hs⟩
theorem long_hit {l:List ByteArray} {k:Nat} (hk:k<l.length) (h:60<l[k].size):zeW l=true:=by
 unfold zeW
 rw [List.any_eq_true.2 ⟨_,List.getElem_mem hk,by simpa using h⟩,Bool.or_true]
theorem long_end {l:List ByteArray} (h30:l.length≤30) (h:∀s∈l.take l.length,s.size≤60):zeW l=false:=by
 unfold zeW
 rw [List.take_length] at h
 rw [decide_eq_false (by omega),List.any_eq_false.2 fun s hs=>by have:=h s hs;simp;omega];rfl
theorem longIs_of {l:List ByteArray} {b:Bool} {w:World} (h:zeW l=b):LongIs (zeW l) w (.returned (.int .i64 (if b then 1 else 0))) w:=by rw [h];exact ⟨rfl,rfl⟩
theorem longHosts_any (A:Option Addr) (c B:Nat) (l:List ByteArray) (w:World) (hr:Reads w B 1 A l.length (zak l)) (hl:l.length≤maxLen) (hs:∀s∈l,s.size≤maxLen):
 Calls Tryz.prog 7 #[.slice A l.length c] w (LongIs (zeW l) w):=by
 unfold maxLen at hl hs
 by_cases h30:30<l.length
 ·have e1:decide ((l.length:Int)>30)=true:=by simp;omega
  have HL:Hid (zeW l=true):=Lib.hid (by unfold zeW;rw [decide_eq_true h30];rfl)
  go_enter Tryz.func7,Tryz.ntmps7
  go_wp2
  go_ret
  exact longIs_of HL.out
 ·have e1:decide ((l.length:Int)>30)=false:=by simp;omega
  go_enter Tryz.func7,Tryz.ntmps7
  go_wp2
  go_loop [3] (fun iv=>∃k:Nat,k≤l.length∧iv= .int .i64 (k:Int)∧Hid (∀t∈l.take k,t.size≤60)) (fun iv=>l.length- (intOf iv).toNat)
  case atStart=>exact ⟨0,Nat.zero_le _,rfl,Lib.hid (by simp)⟩
  case round=>
   obtain ⟨k,hk,rfl,ht⟩:=hrel
   by_cases hlt:k<l.length
   ·obtain ⟨ad,rfl,hc⟩:=zcq hr hlt
    have hlt2:(k:Int)<l.length:=by omega
    have hsz:=hs l[k] (List.getElem_mem hlt)
    by_cases he:60<l[k].size
    ·have e2:decide ((l[k].size:Int)>60)=true:=by simp;omega
     have HL:=Lib.hid (long_hit hlt he)
     go_wp2
     go_ret
     exact longIs_of HL.out
    ·have e2:decide ((l[k].size:Int)>60)=false:=by simp;omega
     have HN:=Lib.hid (all_succ hlt ht.out (show l[k].size≤60 by omega))
     go_wp2
     go_round
     case rel=>exact ⟨k+1,by omega,by go_num,HN⟩
     case measure=>simp [intOf];omega
   ·obtain rfl:k=l.length:=by omega
    have hge:¬(l.length:Int)<l.length:=by omega
    have HL:=Lib.hid (long_end (by omega) ht.out)
    go_wp2
    go_ret
    exact longIs_of HL.out
theorem zfz (A:Option Addr) (c B:Nat) (l:List ByteArray) (s:ByteArray) (w:World) (hr:Reads w B 1 A l.length (zak l)) (hl:l.length≤maxLen):
 Calls Tryz.prog 41 #[.slice A l.length c,.string s] w (zd7 l s w):=by
 unfold maxLen at hl
 go_enter Tryz.func41,Tryz.ntmps41
 go_wp2_with fail
 go_loop [4,5] (fun _ iv=>∃k:Nat,k≤l.length∧iv= .int .i64 (k:Int)∧Hid (∀t∈l.take k,s≠t)) (fun _ iv=>l.length- (intOf iv).toNat)
 case atStart=>exact ⟨0,Nat.zero_le _,rfl,Lib.hid (by simp)⟩
 case round=>
  obtain ⟨k,hk,rfl,ht⟩:=hrel
  by_cases hlt:k<l.length
  ·obtain ⟨ad,rfl,hc⟩:=zcq hr hlt
   have hlt2:(k:Int)<l.length:=by omega
   by_cases he:s=l[k]
   ·have hB:(l[k].toList==s.toList)=true:=by rw [str_eq];simpa using he.symm
    have HE:=Lib.hid he
    clear he
    go_wp2
    go_ret
    exact ⟨by rw [idx_hit hlt ht.out HE.out];rfl,rfl⟩
   ·have hB:(l[k].toList==s.toList)=false:=by rw [str_eq];simpa using (fun e=>he e.symm)
    have HE:=Lib.hid he
    clear he
    go_wp2
    go_round
    case rel=>exact ⟨k+1,by omega,by go_num,zf8 hlt ht HE.out⟩
    case measure=>simp [intOf];omega
  ·have hge:(l.length:Int)≤k:=by omega
   go_wp2
   go_ret
   exact ⟨by rw [zbV (all_miss (by omega) ht)];rfl,rfl⟩
def NameQ (b:Bool) (w:World) (e:Ending) (w':World):Prop:=e= .returned (.bool b)∧w=w'
theorem zf0 {s:ByteArray} {b:Bool} {w:World} (h:isName s=b):NameQ (isName s) w (.returned (.bool b)) w:=by rw [h];exact ⟨rfl,rfl⟩
theorem nums_at (s:ByteArray) {k:Nat} (hk:k<s.size):(nums s)[k]'(by rw [nums_length];exact hk)=s[k].toNat:=by simp [nums];rfl
theorem isName_bad {s:ByteArray} {k:Nat} (hk:k<s.size) (h:nb s[k].toNat=false):isName s=false:=by
 have:((nums s).any fun n=> !nb n)=true:=any_hit (k:=k) (by rw [nums_length];exact hk) (by rw [nums_at s hk,h];rfl)
 unfold isName;rw [this];simp
theorem isName_first {s:ByteArray} (hk:0<s.size) (h:s[0].toNat<97∨122<s[0].toNat):isName s=false:=by
 unfold isName;rw [zf2 s hk]
 rcases h with h|h
 ·rw [decide_eq_false (show¬97≤s[0].toNat by omega)];simp
 ·rw [decide_eq_false (show¬s[0].toNat≤122 by omega)];simp
theorem isName_len {s:ByteArray} (h:s.size<1∨12<s.size):isName s=false:=by
 unfold isName;rw [nums_length]
 rcases h with h|h
 ·rw [decide_eq_false (show¬0<s.size by omega)];simp
 ·rw [decide_eq_false (show¬s.size≤12 by omega)];simp
def NameTo (s:ByteArray) (k:Nat):Prop:=(∀(h:0<s.size),0<k→97≤s[0].toNat∧s[0].toNat≤122)∧((nums s).take k).any (fun n=> !nb n)=false
theorem zfc {s:ByteArray} {k:Nat} (hk:k<s.size) (h:NameTo s k) (hb:nb s[k].toNat=true) (h0:k=0→97≤s[k].toNat∧s[k].toNat≤122):NameTo s (k+1):=by
 refine ⟨fun hs _=> ?_,any_step (by rw [nums_length];exact hk) h.2 (by rw [nums_at s hk,hb];rfl)⟩
 rcases Nat.eq_zero_or_pos k with rfl|hp
 ·exact h0 rfl
 ·exact h.1 hs hp
theorem isName_yes {s:ByteArray} (h1:1≤s.size) (h12:s.size≤12) (h:NameTo s s.size):isName s=true:=by
 have ha:=h.2
 rw [←nums_length,List.take_length] at ha
 have hf:=h.1 (by omega) (by omega)
 unfold isName
 rw [zf2 s (by omega),nums_length,decide_eq_true (show 0<s.size by omega),decide_eq_true h12,decide_eq_true hf.1,decide_eq_true hf.2,ha];rfl
theorem nb_letter {n:Nat} (h:97≤n∧n≤122):nb n=true:=by simp [nb,h.1,h.2]
theorem nb_other {n:Nat} (h:48≤n∧n≤57∨n=45):nb n=true:=by rcases h with ⟨a,b⟩|rfl<;>simp [nb, *]
theorem nb_no {n:Nat} (h1:n<97∨122<n) (h2:n<48∨57<n) (h3:n≠45):nb n=false:=by simp [nb];omega
set_option maxRecDepth 100000 in
theorem isName_any (s:ByteArray) (w:World) (hs:s.size≤maxLen):Calls Tryz.prog 15 #[.string s] w (NameQ (isName s) w):=by
 unfold maxLen at hs
 by_cases h1:s.size<1
 ·have HN:=Lib.hid (isName_len (.inl h1))
  have e1:decide ((s.size:Int)<1)=true:=by simp;omega
  go_enter Tryz.func15,Tryz.ntmps15
  go_wp2
  go_ret
  exact zf0 HN.out
 have e1:decide ((s.size:Int)<1)=false:=by simp;omega
 by_cases h12:12<s.size
 ·have HN:=Lib.hid (isName_len (.inr h12))
  have e2:decide ((s.size:Int)>12)=true:=by simp;omega
  go_enter Tryz.func15,Tryz.ntmps15
  go_wp2
  go_ret
  exact zf0 HN.out
 have e2:decide ((s.size:Int)>12)=false:=by simp;omega
 go_enter Tryz.func15,Tryz.ntmps15
 go_wp2
 go_loop [2,3] (fun rv iv=>∃k:Nat,k≤s.size∧iv= .int .i64 (k:Int)∧rv= .bool false∧Hid (NameTo s k)) (fun _ iv=>s.size- (intOf iv).toNat)
 case atStart=>exact ⟨0,Nat.zero_le _,rfl,rfl,Lib.hid ⟨fun _ h=>absurd h (by omega),by simp⟩⟩
 case round=>
  obtain ⟨k,hk,rfl,rfl,ht⟩:=hrel
  by_cases hlt:k<s.size
  ·have hlt2:(k:Int)<s.size:=by omega
   by_cases ha:97≤s[k].toNat∧s[k].toNat≤122
   ·have a1:decide ((s[k].toNat:Int)≥97)=true:=by simp;omega
    have a2:decide ((s[k].toNat:Int)≤122)=true:=by simp;omega
    have HN:=Lib.hid (zfc hlt ht.out (nb_letter ha) (fun _=>ha))
    clear ha
    go_wp2
    go_round
    case rel=>exact ⟨k+1,by omega,by go_num,rfl,HN⟩
    case measure=>simp [intOf];omega
   ·have ha':Hid (s[k].toNat<97∨122<s[k].toNat):=Lib.hid (by omega)
    have hA:(decide ((s[k].toNat:Int)≥97)=false)∨(decide ((s[k].toNat:Int)≥97)=true∧decide ((s[k].toNat:Int)≤122)=false):=by
     by_cases h:s[k].toNat<97
     ·exact .inl (by simp;omega)
     ·exact .inr ⟨by simp;omega,by simp;omega⟩
    by_cases hk0:k=0
    ·subst hk0
     have HN:=Lib.hid (isName_first hlt ha'.out)
     clear ha ht
     rcases hA with a1|⟨a1,a2⟩
     all_goals
      go_wp2
      all_goals
       go_ret
       exact zf0 HN.out
    ·have k0:((k:Int)==0)=false:=beq_eq_false_iff_ne.2 (by omega)
     have Hk0:=Lib.hid hk0
     clear hk0
     by_cases hd:48≤s[k].toNat∧s[k].toNat≤57
     ·have b1:decide ((s[k].toNat:Int)≥48)=true:=by simp;omega
      have b2:decide ((s[k].toNat:Int)≤57)=true:=by simp;omega
      have HN:=Lib.hid (zfc hlt ht.out (nb_other (.inl hd)) (fun h=>absurd h Hk0.out))
      clear ha hd
      rcases hA with a1|⟨a1,a2⟩
      all_goals
       go_wp2
       go_round
       case rel=>exact ⟨k+1,by omega,by go_num,rfl,HN⟩
       case measure=>simp [intOf];omega
     ·have hd':Hid (s[k].toNat<48∨57<s[k].toNat):=Lib.hid (by omega)
      have hD:(decide ((s[k].toNat:Int)≥48)=false)∨(decide ((s[k].toNat:Int)≥48)=true∧decide ((s[k].toNat:Int)≤57)=false):=by
       by_cases h:s[k].toNat<48
       ·exact .inl (by simp;omega)
       ·exact .inr ⟨by simp;omega,by simp;omega⟩
      by_cases hm:s[k].toNat=45
      ·have c1:((s[k].toNat:Int)==45)=true:=beq_iff_eq.2 (by omega)
       have HN:=Lib.hid (zfc hlt ht.out (nb_other (.inr hm)) (fun h=>absurd h Hk0.out))
       clear ha hd hm
       rcases hA with a1|⟨a1,a2⟩<;>rcases hD with b1|⟨b1,b2⟩
       all_goals
        go_wp2
        go_round
        case rel=>exact ⟨k+1,by omega,by go_num,rfl,HN⟩
        case measure=>simp [intOf];omega
      ·have c1:((s[k].toNat:Int)==45)=false:=beq_eq_false_iff_ne.2 (by omega)
       have HN:=Lib.hid (isName_bad hlt (nb_no ha'.out hd'.out hm))
       clear ha hd hm
       rcases hA with a1|⟨a1,a2⟩<;>rcases hD with b1|⟨b1,b2⟩
       all_goals
        go_wp2
        go_ret
        exact zf0 HN.out
  ·obtain rfl:k=s.size:=by omega
   have hge:¬(s.size:Int)<s.size:=by omega
   have HN:=Lib.hid (isName_yes (by omega) (by omega) ht.out)
   go_wp2
   go_ret
   exact zf0 HN.out
end Go.Proofs.YthkfhfldoniolaaGreatDoor
namespace Go.Proofs.YthkfhfldoniolaaGreatDoor
open Go.RowKit
theorem zfP (c:Int) (w:World):Calls Tryz.prog 35 #[.int .i64 c] w fun e w'=>e= .returned (.agg #[.int .i64 c,.int .i64 (-1)])∧Below w.heap.size w w':=by
 go_enter Tryz.func35,Tryz.ntmps35
 go_wp2
 exact bodyPost_ret (v:= .agg #[.int .i64 c,.int .i64 (-1)]) (by simp [results,Tryz.results35,go_sem]) rfl ⟨rfl,(Below.refl _ _).alloc (Nat.le_refl _) _⟩
theorem fine_any (w:World):Calls Tryz.prog 117 #[] w fun e w'=>e= .returned (.agg #[.int .i64 0,.int .i64 (-1)])∧Below w.heap.size w w':=by
 go_enter Tryz.func117,Tryz.ntmps117
 go_wp2
 exact bodyPost_ret (v:= .agg #[.int .i64 0,.int .i64 (-1)]) (by simp [results,Tryz.results117,go_sem]) rfl ⟨rfl,(Below.refl _ _).alloc (Nat.le_refl _) _⟩
end Go.Proofs.YthkfhfldoniolaaGreatDoor
namespace Go.Proofs.YthkfhfldoniolaaGreatDoor
open Go.RowKit
def zcv (o:Option Flt):Nat:=match o with|none=>0|some f=>f.code
def fAt (o:Option Flt):Int:=match o with|none=> -1|some f=>match f.place with|none=> -1|some i=>(i:Int)
def zaB (o:Option Flt) (w:World) (e:Ending) (w':World):Prop:=e= .returned (.agg #[.int .i64 (zcv o:Int),.int .i64 (fAt o)])∧Below w.heap.size w w'
theorem idx_lt {l:List ByteArray} {k:Nat} (hk:k<l.length):decide (idx l l[k]<(k:Int))=has (l.take k) l[k]:=by
 obtain ⟨j,hj,hi,hg⟩:=zc4 (List.getElem_mem hk)
 by_cases h:l[k]∈l.take k
 ·rw [zbw.2 h]
  obtain ⟨i,hil,hie⟩:=List.mem_iff_getElem.1 h
  rw [List.length_take] at hil
  have hik:i<k:=by omega
  have hie2:l[i]=l[k]:=by rw [←hie,List.getElem_take]
  rw [decide_eq_true_iff,hi]
  rcases Nat.lt_or_ge j k with hlt|hge
  ·omega
  ·exfalso
   have:idx l l[k]≤(i:Int):=by
    have hb:i<l.length:=by omega
    unfold idx
    cases hf:l.findIdx? (fun t=>decide (l[k]=t)) with
    |none=>simp
    |some m=>
     rw [List.findIdx?_eq_some_iff_getElem] at hf
     obtain ⟨hm,_,hall⟩:=hf
     rcases Nat.lt_or_ge i m with h2|h2
     ·have:=hall i h2
      simp [hie2] at this
     ·simp;omega
   omega
 ·rw [Bool.eq_false_iff.2 (fun h'=>h (zbw.1 h')),decide_eq_false_iff_not,hi]
  intro hlt
  apply h
  rw [List.getElem?_eq_getElem hj] at hg
  rw [←Option.some.inj hg]
  exact List.mem_iff_getElem.2 ⟨j,by rw [List.length_take];omega,by rw [List.getElem_take]⟩
def zax (o:Option Flt):Value:= .agg #[.int .i64 (zcv o:Int),.int .i64 (fAt o)]
theorem zaw {o o':Option Flt} {w w':World} {e:Ending} (h:o=o') (he:e= .returned (zax o')) (hb:Below w.heap.size w w'):zaB o w e w':=by subst h;exact ⟨he,hb⟩
set_option maxRecDepth 100000 in
theorem ze3 (A:Option Addr) (c B:Nat) (l:List ByteArray) (w:World) (hr:Reads w B 1 A l.length (zak l)) (hB:B≤w.heap.size) (hl:l.length≤maxLen) (hs:∀s∈l,s.size≤maxLen):
 Calls Tryz.prog 63 #[.slice A l.length c] w (zaB (zaf l) w):=by
 have hl':=hl
 unfold maxLen at hl'
 by_cases h12:12<l.length
 ·have e1:decide ((l.length:Int)>12)=true:=by simp;omega
  have HF:Hid (zaf l=some ⟨2,none⟩):=Lib.hid (by unfold zaf;rw [if_pos h12])
  go_enter Tryz.func63,Tryz.ntmps63
  go_wp2_with fail
  refine (zfP _ _).mono ?_
  rintro e w1 ⟨rfl,hb1⟩
  have hB1:Blk w1 w.heap.size 50 _:=(Blk.new w 50 #[.int .i64 0,.int .i64 0]).below hb1 (by simp)
  have c0:=hB1.cell 0
  have c1:=hB1.cell 1
  have f0:=hB1.frozen 0
  have f1:=hB1.frozen 1
  have hz:w.heap.size<w1.heap.size:=hB1.lt
  have hbb:Below w.heap.size w w1:=((Below.refl _ _).alloc (Nat.le_refl _) _).trans (hb1.mono (by simp))
  have HB:=Lib.hid hbb
  clear hbb hB1
  simp at c0 c1
  go_wp2
  refine bodyPost_ret (v:=zax (some ⟨2,none⟩)) (by simp [results,Tryz.results63,go_sem,zax,zcv,fAt,c0,c1]) rfl (zaw HF.out rfl ?_)
  exact (HB.out.setCell (p:=⟨w.heap.size,0,none⟩) (Nat.le_refl _) _).setCell (p:=⟨w.heap.size,1,none⟩) (Nat.le_refl _) _
 ·have e1:decide ((l.length:Int)>12)=false:=by simp;omega
  have HF:Hid (zaf l=zbc l l.length 0):=Lib.hid (by unfold zaf;rw [if_neg h12])
  have hra:Reads (w.alloc (.cells #[.int .i64 0,.int .i64 0] 50)) B 1 A l.length (zak l):=hr.alloc hB _
  go_enter Tryz.func63,Tryz.ntmps63
  go_wp2_with fail
  go_loop [3] (fun kv=>∃k:Nat,k≤l.length∧kv= .int .i64 (k:Int)∧Hid (zbc l (l.length-k) k=zbc l l.length 0)) (fun kv=>l.length- (intOf kv).toNat)
  case atStart=>exact ⟨0,Nat.zero_le _,rfl,Lib.hid rfl⟩
  case round=>
   obtain ⟨k,hk,rfl,ht⟩:=hrel
   by_cases hlt:k<l.length
   ·obtain ⟨ad,hA,hc⟩:=zcq hra hlt
    have hlt2:(k:Int)<l.length:=by omega
    have hsz:=hs l[k] (List.getElem_mem hlt)
    have HI:=Lib.hid (fun W=>zfz A c B l l[k] W)
    have HN:=Lib.hid (isName_any l[k] (w.alloc (.cells #[.int .i64 0,.int .i64 0] 50)) hsz)
    have hx:idx l l[k]<k↔has (l.take k) l[k]=true:=by rw [←idx_lt hlt];simp
    have HIX:=Lib.hid (HI.out _ hra hl)
    subst hA
    clear HI hra
    cases hn:isName l[k] with
    |false=>
     rw [hn] at HN
     have HG:=Lib.hid (faultGo_name hlt hn)
     clear hn hsz hx HIX
     go_wp2_with fail
     refine HN.out.mono ?_
     rintro e w1 ⟨rfl,rfl⟩
     go_wp2
     refine bodyPost_ret (v:=zax (some ⟨4,some k⟩)) (by simp [results,Tryz.results63,go_sem,zax,zcv,fAt]) rfl (zaw (HF.out.trans (ht.out.symm.trans HG.out)) rfl ?_)
     exact (Below.refl _ _).alloc (Nat.le_refl _) _
    |true=>
     rw [hn] at HN
     unfold zd7 at HIX
     cases hh:has (l.take k) l[k] with
     |true=>
      rw [hh] at hx
      have HG:=Lib.hid (zfE hlt hn hh)
      have hi:idx l l[k]<k:=hx.2 rfl
      have e2:decide (idx l l[k]<(k:Int))=true:=by simpa using hi
      clear hn hsz hx hh hi
      generalize idx l l[k]=ix at*
      go_wp2_with fail
      refine HN.out.mono ?_
      rintro e w1 ⟨rfl,rfl⟩
      go_wp2_with fail
      refine HIX.out.mono ?_
      rintro e w1 ⟨rfl,rfl⟩
      go_wp2
      refine bodyPost_ret (v:=zax (some ⟨6,some k⟩)) (by simp [results,Tryz.results63,go_sem,zax,zcv,fAt]) rfl (zaw (HF.out.trans (ht.out.symm.trans HG.out)) rfl ?_)
      exact (Below.refl _ _).alloc (Nat.le_refl _) _
     |false=>
      rw [hh] at hx
      have HG:=Lib.hid (faultGo_step hlt hn hh)
      have e2:decide (idx l l[k]<(k:Int))=false:=by
       rw [decide_eq_false_iff_not];intro h;exact absurd (hx.1 h) (by decide)
      clear hn hsz hx hh
      generalize idx l l[k]=ix at*
      go_wp2_with fail
      refine HN.out.mono ?_
      rintro e w1 ⟨rfl,rfl⟩
      go_wp2_with fail
      refine HIX.out.mono ?_
      rintro e w1 ⟨rfl,rfl⟩
      go_wp2
      go_round
      case rel=>exact ⟨k+1,by omega,by go_num,Lib.hid (HG.out.symm.trans ht.out)⟩
      case measure=>simp [intOf];omega
   ·have hge:¬(k:Int)<l.length:=by omega
    have HG:=Lib.hid (faultGo_end (l:=l) (k:=k) (by omega))
    clear hra
    go_wp2_with fail
    refine (fine_any _).mono ?_
    rintro e w1 ⟨rfl,hb1⟩
    have hB1:Blk w1 w.heap.size 50 _:=(Blk.new w 50 #[.int .i64 0,.int .i64 0]).below hb1 (by simp)
    have c0:=hB1.cell 0
    have c1:=hB1.cell 1
    have f0:=hB1.frozen 0
    have f1:=hB1.frozen 1
    have hz:w.heap.size<w1.heap.size:=hB1.lt
    have hbb:Below w.heap.size w w1:=((Below.refl _ _).alloc (Nat.le_refl _) _).trans (hb1.mono (by simp))
    have HB:=Lib.hid hbb
    clear hbb hB1
    simp at c0 c1
    go_wp2
    refine bodyPost_ret (v:=zax none) (by simp [results,Tryz.results63,go_sem,zax,zcv,fAt,c0,c1]) rfl (zaw (HF.out.trans (ht.out.symm.trans HG.out)) rfl ?_)
    exact (HB.out.setCell (p:=⟨w.heap.size,0,none⟩) (Nat.le_refl _) _).setCell (p:=⟨w.heap.size,1,none⟩) (Nat.le_refl _) _
def YesQ (w:World) (e:Ending) (w':World):Prop:=e= .returned (.bool true)∧∃m,w'=w.drewN m
theorem zfA (A B:Option Addr) (ca cb Bd:Nat) (xs:List ByteArray) (w:World) (ha:Reads w Bd 1 A xs.length (zak xs)) (hb:Reads w Bd 1 B xs.length (zak xs)) (hl:xs.length≤maxLen):
 Calls Tryz.prog 11 #[.slice A xs.length ca,.slice B xs.length cb] w (YesQ w):=by
 unfold maxLen at hl
 go_enter Tryz.func11,Tryz.ntmps11
 go_wp2
 go_loopw [5] (fun iv wr=>∃k m:Nat,k≤xs.length∧iv= .int .i64 (k:Int)∧wr=w.drewN m) (fun iv _=>xs.length- (intOf iv).toNat)
 case atStart=>exact ⟨0,0,Nat.zero_le _,rfl,rfl⟩
 case round=>
  obtain ⟨k,m,hk,rfl,rfl⟩:=hrel
  by_cases hlt:k<xs.length
  ·obtain ⟨ad,rfl,hc⟩:=zcq ha hlt
   obtain ⟨bd,rfl,hd⟩:=zcq hb hlt
   have hlt2:(k:Int)<xs.length:=by omega
   go_wp2
   go_quiet (fail)
   go_wp2
   go_roundw
   case rel=>exact ⟨k+1,_,by omega,by go_num,rfl⟩
   case measure=>simp [intOf];omega
  ·have hge:¬(k:Int)<xs.length:=by omega
   go_wp2
   go_ret
   exact ⟨rfl,_,rfl⟩
end Go.Proofs.YthkfhfldoniolaaGreatDoor
