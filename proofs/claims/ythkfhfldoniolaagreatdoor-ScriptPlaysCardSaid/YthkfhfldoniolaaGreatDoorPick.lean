/-
  A balance in memory; the map of hosts that are drained. slices.DeleteFunc at texts with fresh's closure: those that are drained go. A balance's fresh host of a key. A balance's Pick.
-/
import Derived.Test.YthkfhfldoniolaaGreatDoorHealthOps
import Derived.Test.YthkfhfldoniolaaGreatDoorFlows
import Derived.Test.YthkfhfldoniolaaGreatDoorTables
import Derived.Shelf.SlicesE.DeleteFunc
import Derived.BigQuiet
import Derived.Deep.QuietTactic
set_option maxHeartbeats 1000000
namespace Go.Proofs.YthkfhfldoniolaaGreatDoor
open Go.RowKit Go.Maps Go.WideMaps
theorem zero_boolB (w:World):(zeroValue 4).run Tryz.prog w= .ok (.bool false) w:=by
 have h:Tryz.t4.zero=some (.bool false):=by kernel_rfl
 simp [zeroValue,h]
theorem plain_bool_inv {v:Value} {b:Bool} {ps:List MemPlace} (h:plainElem (H:=Unit) Tryz.prog 4 v=some (.lit (.bool b),ps)):v= .bool b:=by
 have hu:=Tryz.underlying4
 generalize Tryz.prog=P at h hu
 unfold plainElem at h
 rw [hu] at h
 cases v with
 |bool x=>simp at h;rw [h.1]
 |_=>simp at h
def DrIs (b n:Nat) (f:ByteArray→Bool) (w:World):Prop:=∃D:DataW Unit,w.ownsMap Tryz.prog 9 (plainElem Tryz.prog 4) b n D∧∀s:ByteArray,s.size≤maxLen→D.atKey (.string s.data.toList) (.lit (.bool false))= .lit (.bool (f s))
section
variable {b n:Nat} {f:ByteArray→Bool} {w w':World}
theorem DrIs.made (w:World):DrIs w.heap.size 0 (fun _=>false) (w.alloc (.map #[] 0)):=⟨_,World.ownsMap_made w _ _ _,fun k _=>by simp [DataW.atKey]⟩
theorem DrIs.lt (h:DrIs b n f w):b<w.heap.size:=by obtain ⟨D,ho,_⟩:=h;exact ho.lt
theorem DrIs.turn {bs:List Nat} (h:DrIs b n f w) (ht:zam bs w w') (hb:b∉bs):DrIs b n f w':=by
 obtain ⟨D,ho,hD⟩:=h
 exact ⟨D,ht.map ho hb,hD⟩
theorem DrIs.below (h:DrIs b n f w) (hb:Below w.heap.size w w'):DrIs b n f w':=h.turn (zam.of_below (bs:=[]) hb) (by simp)
theorem DrIs.heap (h:DrIs b n f w):∃es c,w.heap[b]? =some (.map es c):=by
 obtain ⟨D,⟨es,clock,h1,_⟩,_⟩:=h
 exact ⟨es,clock,h1⟩
theorem DrIs.look {s:ByteArray} (h:DrIs b n f w) (hs:s.size≤maxLen):(Instr.lookup 164 (.map (some b)) (.string s) false).run Tryz.prog w= .ok (.bool (f s)) w:=by
 obtain ⟨D,ho,hD⟩:=h
 obtain ⟨v,ps,hrun,hv⟩:=ho.lookup (string_keyed Tryz.underlying9) Tryz.underlying164 (zero_boolB w) (plainElem_bool Tryz.underlying4 false) (keyOf_string_mk Tryz.underlying9 hs)
 rw [hD s hs] at hv
 obtain rfl:=plain_bool_inv hv
 exact hrun
theorem ba_toList {a b:ByteArray} (h:a.data.toList=b.data.toList):a=b:=by
 cases a;cases b;simp at h;rw [h]
theorem DrIs.put {s:ByteArray} (v:Bool) (h:DrIs b n f w) (hs:s.size≤maxLen) (hn:n<maxLen):
 ∃w',(Instr.mapUpdate 164 (.map (some b)) (.string s) (.bool v)).run Tryz.prog w= .ok () w'∧DrIs b (n+1) (fun x=>if x=s then v else f x) w'∧w.grownBy w' (some b):=by
 obtain ⟨D,ho,hD⟩:=h
 obtain ⟨w',hrun,ho',hg⟩:=ho.update (string_keyed Tryz.underlying9) Tryz.underlying164 hn (keyOf_string_mk Tryz.underlying9 hs) (plainElem_bool Tryz.underlying4 v)
 refine ⟨w',hrun,⟨_,ho',fun j hj=> ?_⟩,hg⟩
 by_cases hjk:j=s
 ·subst hjk
  rw [atKey_put_same (k:= .string j.data.toList) ho.isMap trivial];simp
 ·have hne:¬j.data.toList=s.data.toList:=fun e=>hjk (ba_toList e)
  rw [atKey_put_other (k:= .string s.data.toList) (k':= .string j.data.toList) (by intro e;injection e with e;exact hne e),hD j hj]
  simp [hjk]
end
structure zb7 where
 hosts:List ByteArray
 size:Nat
 time:Nat
 fall:Nat
 rise:Nat
structure BS where
 st:List St
 fs:FS
 dr:ByteArray→Bool
 nd:Nat
 epoch:Nat
structure BPl where
 bp:Nat
 hp:Nat
 fp:Nat
 mb:Nat
 db:Nat
 hv:Value
 sv:Value
 ps:List Nat
abbrev balC (p:BPl) (c:zb7) (e:Nat):Array Value:= #[ptr p.hp,p.hv,.int .i64 (c.size:Int),ptr p.fp,.map (some p.db),.int .i64 (e:Int)]
structure BOk (c:zb7):Prop where
 hf:zaf c.hosts=none
 h0:0<c.hosts.length
 tf:zah c.hosts (c.size:Int)=none
 t1:1≤c.time
 t2:c.time≤1000
 f1:1≤c.fall
 f2:c.fall≤10
 r1:1≤c.rise
 r2:c.rise≤10
structure zaR (w:World) (lo:Nat) (p:BPl) (c:zb7) (s:BS):Prop where
 blk:Blk w p.bp 166 (balC p c s.epoch)
 row:w.ownsRow lo 9 1 p.hv c.hosts.length (zak c.hosts)
 h:zay w lo p.hp c.fall c.rise s.st p.sv p.ps
 f:zaD w p.fp p.mb c.time s.fs.1 s.fs.2
 d:DrIs p.db s.nd s.dr w
 ne:p.mb≠p.db
 same:hosts s.st=c.hosts
 lk:∀x∈s.st,x.looks<10
 ab:lo≤p.bp∧lo≤p.fp∧lo≤p.mb∧lo≤p.db
theorem zc5 {w:World} {base n size:Nat} {e:TypeId} {v:Value} {xs:List Value} {b:Nat} {es} {c} (h:w.ownsRow base e size v n xs) (hb:w.heap[b]? =some (.map es c)):v.ownBlock≠some b:=by
 intro hv
 rcases h.2 with ⟨rfl,_⟩|⟨g,cap,cur,rfl,_,hh,_⟩
 ·simp [Value.ownBlock] at hv
 ·have:g=b:=by simpa [Value.ownBlock] using hv
  subst this
  rw [hb] at hh
  cases hh
theorem zaV {w:World} {b g:Nat} {es} {c} {t:TypeId} {cs:Array Value} (hb:w.heap[b]? =some (.map es c)) (hg:Blk w g t cs):g≠b:=by
 rintro rfl
 unfold Blk at hg
 rw [hb] at hg
 cases hg
theorem zbo.heap {w:World} {b:Nat} {L:List Fl} (h:zbo w b L):∃es c,w.heap[b]? =some (.map es c):=by
 obtain ⟨es,clock,hb,_⟩:=h.own
 exact ⟨es,clock,hb⟩
section
variable {w w':World} {lo:Nat} {p:BPl} {c:zb7} {s:BS}
theorem zaR.pbs (h:zaR w lo p c s) {q:Nat} (hq:q∈p.ps):∃x,Blk w q 225 (zbF x):=by
 obtain ⟨i,hi,rfl⟩:=List.mem_iff_getElem.1 hq
 have hi2:i<s.st.length:=by rw [←h.h.len];exact hi
 exact ⟨_,h.h.at_ i _ s.st[i] (List.getElem?_eq_getElem hi) (List.getElem?_eq_getElem hi2)⟩
theorem zaR.turnF (h:zaR w lo p c s) {fs':FS} (hf:zaD w' p.fp p.mb c.time fs'.1 fs'.2) (ht:zam [p.fp,p.mb] w w'):zaR w' lo p c { s with fs:=fs' }:=by
 obtain ⟨es,cl,hm⟩:=h.f.map.heap
 obtain ⟨es2,cl2,hd⟩:=h.d.heap
 have n1:=h.blk.ne_ h.f.blk (by decide)
 have n2:=zaV hm h.blk
 have n3:=h.h.blk.ne_ h.f.blk (by decide)
 have n4:=zaV hm h.h.blk
 have n5:p.db≠p.fp:=fun e=>zaV hd h.f.blk e.symm
 refine ⟨ht.blk h.blk (by simp;exact ⟨n1,n2⟩),ht.own h.row fun g hg=> ?_,h.h.turn ht (by simp;exact ⟨n3,n4⟩) (fun q hq=> ?_) (fun g hg=> ?_),hf,h.d.turn ht (by simp;exact ⟨n5,h.ne.symm⟩),h.ne,h.same,h.lk,h.ab⟩
 ·simp only [List.mem_cons,List.not_mem_nil,or_false]
  rintro (rfl|rfl)
  ·exact zbe h.row h.f.blk (by decide) hg
  ·exact zc5 h.row hm hg
 ·obtain ⟨x,hx⟩:=h.pbs hq
  have m1:=hx.ne_ h.f.blk (by decide)
  have m2:=zaV hm hx
  simp;exact ⟨m1,m2⟩
 ·simp only [List.mem_cons,List.not_mem_nil,or_false]
  rintro (rfl|rfl)
  ·exact zbe h.h.own h.f.blk (by decide) hg
  ·exact zc5 h.h.own hm hg
def BPl.bs (p:BPl):List Nat:=p.bp::p.fp::p.mb::p.db::p.ps
theorem zaR.below (h:zaR w lo p c s) (hb:Below w.heap.size w w'):zaR w' lo p c s:=
 ⟨h.blk.below hb h.blk.lt,own_below h.row hb,h.h.below hb,h.f.below hb,h.d.below hb,h.ne,h.same,h.lk,h.ab⟩
theorem zaR.bsLo (h:zaR w lo p c s):∀b∈p.bs,lo≤b:=by
 intro b hb
 unfold BPl.bs at hb
 simp only [List.mem_cons] at hb
 rcases hb with rfl|rfl|rfl|rfl|hb
 ·exact h.ab.1
 ·exact h.ab.2.1
 ·exact h.ab.2.2.1
 ·exact h.ab.2.2.2
 ·exact h.h.base.2 _ hb
theorem BPl.fm (p:BPl):∀b∈[p.fp,p.mb],b∈p.bs:=by
 intro b hb
 unfold BPl.bs
 simp only [List.mem_cons,List.not_mem_nil,or_false] at hb ⊢
 rcases hb with rfl|rfl<;>simp
theorem zaR.turnD (h:zaR w lo p c s) {dr':ByteArray→Bool} {nd':Nat} (hd':DrIs p.db nd' dr' w') (ht:zam [p.db] w w'):zaR w' lo p c { s with dr:=dr',nd:=nd' }:=by
 obtain ⟨es2,cl2,hd⟩:=h.d.heap
 have n1:=zaV hd h.blk
 have n3:=zaV hd h.h.blk
 have n5:=zaV hd h.f.blk
 refine ⟨ht.blk h.blk (by simpa using n1),ht.own h.row fun g hg=> ?_,h.h.turn ht (by simpa using n3) (fun q hq=> ?_) (fun g hg=> ?_),h.f.turn ht (by simpa using n5) (by simpa using h.ne),hd',h.ne,h.same,h.lk,h.ab⟩
 ·rintro hm
  rw [List.mem_singleton] at hm
  subst hm
  exact zc5 h.row hd hg
 ·obtain ⟨x,hx⟩:=h.pbs hq
  simpa using zaV hd hx
 ·rintro hm
  rw [List.mem_singleton] at hm
  subst hm
  exact zc5 h.h.own hd hg
end
end Go.Proofs.YthkfhfldoniolaaGreatDoor
namespace Go.Proofs.YthkfhfldoniolaaGreatDoor
open Go.RowKit Go.Maps Go.WideMaps Go.Lib Go.Sort Go.Shelf
section
variable {P:Program} {w:World} {ops:Array Oper} {rest:List Oper} {o:Oper} {a:Act} {Q:Exit→Act→World→Prop} {b n:Nat} {f:ByteArray→Bool}
theorem wp_dr_look (hg:o.guard=none) (m x:Operand) (hop:o.op=Op.lookup 164 m x false) (hm:a.eval m= .map (some b)) (h:DrIs b n f w) (s:ByteArray) (hx:a.eval x= .string s) (hs:s.size≤maxLen)
 (hK:wpList Tryz.prog ops Q rest (a.put o.dst (.bool (f s))) w):wpList Tryz.prog ops Q (o::rest) a w:=by
 refine wpList_plain hg fun K' hK'=> ?_
 have hrun:=h.look hs
 unfold Oper.wp
 simp [execOp,hop,hm,hx,hrun,Result.andThen]
 exact hK' _ _ hK
end
abbrev Str:={ s:ByteArray//s.size≤maxLen }
instance :Inhabited Str:=⟨⟨⟨#[]⟩,by decide⟩⟩
def encStr (x:Str):Value:= .string x.1
def strsOf (l:List ByteArray) (h:∀s∈l,s.size≤maxLen):List Str:=l.attach.map fun x=>⟨x.1,h x.1 x.2⟩
theorem strsOf_val {l:List ByteArray} (h:∀s∈l,s.size≤maxLen):(strsOf l h).map Subtype.val=l:=by
 unfold strsOf
 rw [List.map_map]
 exact List.attach_map_subtype_val l
theorem strsOf_len {l:List ByteArray} (h:∀s∈l,s.size≤maxLen):(strsOf l h).length=l.length:=by simp [strsOf]
theorem strsOf_enc {l:List ByteArray} (h:∀s∈l,s.size≤maxLen):(strsOf l h).map encStr=zak l:=by
 have:(strsOf l h).map encStr=((strsOf l h).map Subtype.val).map Value.string:=by rw [List.map_map];rfl
 rw [this,strsOf_val];rfl
theorem strs_filter (p:ByteArray→Bool) (d:List Str):(d.filter fun x=>p x.1).map Subtype.val=(d.map Subtype.val).filter p:=by
 rw [List.filter_map];rfl
theorem fresh1_any {bx bp db nd:Nat} {dr:ByteArray→Bool} (s:ByteArray) (W:World) (hs:s.size≤maxLen) (hc:W.cell? ⟨bx,0,none⟩=some (.pointer (some ⟨bp,0,none⟩))) (hb:W.cell? ⟨bp,4,none⟩=some (.map (some db))) (hd:DrIs db nd dr W):
 Calls Tryz.prog 188 #[.string s,.pointer (some ⟨bx,0,none⟩)] W fun e w'=>e= .returned (.bool (dr s))∧∃q,w'=W.drewN q:=by
 go_enter Tryz.func188,Tryz.ntmps188
 go_wp2_with (first
  |(at_lookup;refine wp_dr_look rfl _ _ rfl rfl hd s rfl hs ?_)
  |fail)
 go_ret
 exact ⟨rfl,0,rfl⟩
def DelStr (g cap:Nat) (l:List ByteArray) (w:World) (e:Ending) (w':World):Prop:=e= .returned (.slice (some ⟨g,0,none⟩) l.length cap)∧Reads w' w'.heap.size 1 (some ⟨g,0,none⟩) l.length (zak l)∧w.grownBy w' (some g)
theorem delStr_any {B g n cap bx bp db nd:Nat} {dr:ByteArray→Bool} {l:List ByteArray} (w:World) (ho:w.ownsRow B 9 1 (.slice (some ⟨g,0,none⟩) n cap) n (zak l)) (hs:∀s∈l,s.size≤maxLen)
 (hc:w.cell? ⟨bx,0,none⟩=some (.pointer (some ⟨bp,0,none⟩))) (hb:w.cell? ⟨bp,4,none⟩=some (.map (some db))) (hd:DrIs db nd dr w) (n1:bx≠g) (n2:bp≠g):
 Calls Tryz.prog 187 #[.slice (some ⟨g,0,none⟩) n cap,.func (.func 188) #[] #[.pointer (some ⟨bx,0,none⟩)]] w (DelStr g cap (l.filter fun s=> !dr s) w):=by
 obtain ⟨hl,hB,hnc,hcm,_⟩:=zeB ho
 have hll:l.length=n:=by simpa [zak] using hl
 obtain ⟨es,cl,hdh⟩:=hd.heap
 have n3:db≠g:=fun e=>zc5 ho hdh (by rw [e];rfl)
 have hH:Holds encStr w g 0 (strsOf l hs).toArray:=holds_map encStr (by
  have:=zf9 ho
  rw [←strsOf_enc hs] at this
  simpa using this)
 have eg:∀args w,(callFunc 188 args).run Tryz.prog w= .ok (.enter 188 args) w:=enters_of Tryz.func188 (by kernel_rfl) rfl
 have hsz:((strsOf l hs).toArray).size=n:=by simp [strsOf_len,hll]
 unfold maxLen at hcm
 have hp:PredAt Tryz.prog 188 #[.pointer (some ⟨bx,0,none⟩)] encStr (fun x=>dr x.1) w:=fun W x hW=>
  fresh1_any x.1 W x.2 ((zam.of_below (bs:=[]) hW).cell hc (by simp)) ((zam.of_below (bs:=[]) hW).cell hb (by simp)) (hd.below hW)
 have hpo:PredOver Tryz.prog 188 #[.pointer (some ⟨bx,0,none⟩)] encStr (fun x=>dr x.1) g 0 ((strsOf l hs).toArray).size w:=fun m os dk x _=>by
  have ht:zam [g] w (sortWorld encStr w g 0 m dk os):=by
   unfold sortWorld
   rw [zeC encStr]
   exact zam.zaE (zfg _) (fun j hj=>by cases hj;simp)
  exact fresh1_any x.1 _ x.2 (ht.cell hc (by simpa using n1)) (ht.cell hb (by simpa using n2)) (hd.turn ht (by simpa using n3))
 have hcon:=AnyE.slices_DeleteFunc Tryz.delStr encStr (fun _=>rfl) (fun x=>dr x.1) 188 #[.pointer (some ⟨bx,0,none⟩)] eg ⟨⟨#[]⟩,by decide⟩ Tryz.zeroValue9 g 0 cap (strsOf l hs).toArray w hp hpo hH (by rw [hsz];omega) (by rw [hsz];exact hnc)
 rw [hsz] at hcon
 change Calls Tryz.prog 187 _ _ _ at hcon
 refine hcon.mono ?_
 rintro e w' ⟨rfl,q,rfl⟩
 have hfl:((strsOf l hs).filter fun x=> !dr x.1).map encStr=zak (l.filter fun s=> !dr s):=by
  have e1:((strsOf l hs).filter fun x=> !dr x.1).map encStr=(((strsOf l hs).filter fun x=> !dr x.1).map Subtype.val).map Value.string:=by rw [List.map_map];rfl
  rw [e1,strs_filter (fun s=> !dr s),strsOf_val];rfl
 have hlen:((strsOf l hs).filter fun x=> !dr x.1).length=(l.filter fun s=> !dr s).length:=by
  have:=congrArg List.length hfl
  simpa [zak] using this
 have hle:(l.filter fun s=> !dr s).length≤n:=by rw [←hll];exact List.length_filter_le _ _
 have hfv:(zak (l.filter fun s=> !dr s)).length=(l.filter fun s=> !dr s).length:=by simp [zak]
 have hput:=own_put (ys:=zak (l.filter fun s=> !dr s)++List.replicate (n- (l.filter fun s=> !dr s).length) (Value.string ⟨#[]⟩)) ho (by rw [List.length_append,hfv,List.length_replicate,hl];omega) q #[]
 rw [grow_empty] at hput
 have e2:=zeC encStr (Sort.ahead w q) g (((strsOf l hs).filter fun x=> !dr x.1)++List.replicate (n- ((strsOf l hs).filter fun x=> !dr x.1).length) (⟨⟨#[]⟩,by decide⟩:Str)).toArray
 have e3:((((strsOf l hs).filter fun x=> !dr x.1)++List.replicate (n- ((strsOf l hs).filter fun x=> !dr x.1).length) (⟨⟨#[]⟩,by decide⟩:Str)).toArray).map encStr=(zak (l.filter fun s=> !dr s)++List.replicate (n- (l.filter fun s=> !dr s).length) (Value.string ⟨#[]⟩)).toArray:=by
  rw [List.map_toArray,List.map_append,hfl,hlen,List.map_replicate];rfl
 have hcut:=own_cut hput.1 hle
 rw [Nat.mul_one,List.take_left' hfv] at hcut
 refine ⟨by rw [hlen], ?_, ?_⟩
 ·rw [e2,e3]
  exact Reads.zbv hcut
 ·rw [e2,e3]
  exact hput.2
end Go.Proofs.YthkfhfldoniolaaGreatDoor
namespace Go.Proofs.YthkfhfldoniolaaGreatDoor
open Go.RowKit
def zaj (s:BS):List ByteArray:=(ups s.st).filter fun x=> !s.dr x
theorem zfn (st:List St):(ups st).Sublist (hosts st):=by
 unfold ups hosts
 exact (List.filter_sublist).map _
theorem openOf_sub (s:BS):(zaj s).Sublist (hosts s.st):=List.filter_sublist.trans (zfn s.st)
theorem name_size {x:ByteArray} (h:isName x=true):x.size≤12:=by
 unfold isName at h
 simp only [Bool.and_eq_true,decide_eq_true_eq] at h
 have:=h.1.1.1.2
 rwa [nums_length] at this
theorem zbN {l:List ByteArray} (h:zaf l=none):l.length≤12∧(∀s∈l,s.size≤maxLen):=by
 obtain ⟨h1,h2,_⟩:=zal.1 h
 exact ⟨h1,fun s hs=>by have:=name_size (h2 s hs);unfold maxLen;omega⟩
theorem sub_fault {l o:List ByteArray} (h:zaf l=none) (hs:o.Sublist l):zaf o=none:=by
 obtain ⟨h1,h2,h3⟩:=zal.1 h
 exact zal.2 ⟨Nat.le_trans hs.length_le h1,fun s hm=>h2 s (hs.subset hm),h3.sublist hs⟩
theorem zdB {l o:List ByteArray} {n:Nat} (h:zah l (n:Int)=none) (hs:o.Sublist l) (h0:0<o.length):zah o (n:Int)=none:=by
 obtain ⟨_,h2,_⟩:=zaG h
 unfold zah at h ⊢
 split at h
 ·cases h
 ·rw [h2] at h
  rw [if_neg (by omega),sub_fault h2 hs]
  exact h
theorem delStr_nil (fv:Value) (w:World):Calls Tryz.prog 187 #[.slice none 0 0,fv] w fun e w'=>e= .returned (.slice none 0 0)∧w=w':=by
 have HI:Hid (∀W,Calls Tryz.prog 129 #[.slice none 0 0,fv] W fun e w'=>e= .returned (.int .i64 (-1))∧W=w'):=Lib.hid fun W=>by
  go_enter Tryz.func129,Tryz.ntmps129
  go_wp2
  go_loop [8] (fun iv=>iv= .int .i64 0) (fun _=>0)
  case atStart=>rfl
  case round=>
   subst hrel
   go_wp2
   go_ret
   exact ⟨rfl,rfl⟩
 go_enter Tryz.func187,Tryz.ntmps187
 go_wp2_with fail
 refine (HI.out _).mono ?_
 rintro e w1 ⟨rfl,rfl⟩
 go_wp2
 go_ret
 exact ⟨rfl,rfl⟩
def zfY (ea:Nat→Addr) (l:List ByteArray) (n k:Nat) (w:World) (e:Ending) (w':World):Prop:=
 Below w.heap.size w w'∧((l=[]∧e= .returned (.tuple #[.string ⟨#[]⟩,errB ea 5]))∨(l≠[]∧e= .returned (.tuple #[.string (zbn l n (Mx.turn k%n)),.nilIface])))
theorem delOpen_any {w w1 w2:World} {lo bx:Nat} {p:BPl} {c:zb7} {s:BS} {A:Option Addr} {cap:Nat} (h:zaR w lo p c s) (hO:BOk c) (hb:Below w.heap.size w w1) (hx:w1.cell? ⟨bx,0,none⟩=some (.pointer (some ⟨p.bp,0,none⟩))) (hbx:w.heap.size≤bx) (ho:w2.ownsRow w1.heap.size 9 1 (.slice A (ups s.st).length cap) (ups s.st).length (zak (ups s.st))) (hb2:Below w1.heap.size w1 w2):
 Calls Tryz.prog 187 #[.slice A (ups s.st).length cap,.func (.func 188) #[] #[.pointer (some ⟨bx,0,none⟩)]] w2 fun e w'=>∃A' cap',e= .returned (.slice A' (zaj s).length cap')∧zcr w' A' cap' (zaj s)∧Below w1.heap.size w1 w':=by
 have hho:zaf (zaj s)=none:=sub_fault (by rw [h.same];exact hO.hf) (openOf_sub s)
 obtain ⟨hl12,hos⟩:=zbN hho
 have hus:∀x∈ups s.st,x.size≤maxLen:=fun x hx=>(zbN hO.hf).2 x (by rw [←h.same];exact (zfn s.st).subset hx)
 have hm:(zaj s).length≤maxLen:=by unfold maxLen;omega
 have hbx1:=lt_of_cell hx
 have hle:=List.length_filter_le (fun x=> !s.dr x) (ups s.st)
 rcases ho.2 with ⟨hv,h0⟩|⟨g,cap',cur,hv,hg,_⟩
 ·injection hv with e1 e2 e3
  subst e1
  have hu0:ups s.st=[]:=List.length_eq_zero_iff.1 h0
  have ho0:zaj s=[]:=by unfold zaj;rw [hu0];rfl
  rw [hu0,ho0]
  subst e3
  refine (delStr_nil _ w2).mono fun e w' ⟨he,hw⟩=>⟨none,0,he, ?_,by rw [←hw];exact hb2⟩
  exact ⟨Reads.none_,Nat.zero_le _,Nat.zero_le _,fun _ hx=>by cases hx⟩
 ·injection hv with e1 e2 e3
  subst e1
  subst e3
  have c1:w2.cell? ⟨bx,0,none⟩=some (.pointer (some ⟨p.bp,0,none⟩)):=(hb2.cell (p:=⟨bx,0,none⟩) hbx1).trans hx
  have hB2:=(h.below hb).below hb2
  have hbl:=h.blk.lt
  have hs1:=hb.size
  have hcap:=(zeB ho).2.2.1
  refine (delStr_any w2 ho hus c1 (hB2.blk.cell 4) hB2.d (by omega) (by omega)).mono fun e w' ⟨he,hr,hgr⟩=>⟨_,_,he,⟨hr,Nat.le_trans hle hcap,hm,hos⟩, ?_⟩
  exact hb2.trans ((zam.zaE (bs:=[g]) hgr fun j hj=>by cases hj;simp).below (B:=w1.heap.size) hb2.size (by simpa using hg))
theorem turn_some (k n:Nat) (hk:U64 k) (hn:2≤n):∃T j:Nat,Hid (j=Mx.turn k%n)∧j<n∧U64 T∧((T:Int).tmod (n:Int)=(j:Int))∧((T:Int)%(n:Int)=(j:Int))∧Hid (∀w:World,Calls Tryz.prog 176 #[.int .u64 (k:Int)] w fun e w'=>e= .returned (.int .u64 (T:Int))∧w=w'):=
 ⟨Mx.turn k,Mx.turn k%n,Lib.hid rfl,Nat.mod_lt _ (by omega),Mx.turn_lt k,by rw [Int.ofNat_tmod],by omega,Lib.hid fun w=>zeU k w hk⟩
set_option maxRecDepth 100000 in
theorem fresh_any (ea:Nat→Addr) {lo:Nat} {p:BPl} {c:zb7} {s:BS} (k:Nat) (w:World) (hE:zd4 ea w) (h:zaR w lo p c s) (hO:BOk c) (hU:U64 k):
 Calls Tryz.prog 150 #[.pointer (some ⟨p.bp,0,none⟩),.int .u64 (k:Int)] w (zfY ea (zaj s) c.size k w):=by
 have hb0:=(Below.refl w.heap.size w).alloc (Nat.le_refl _) (.cells #[.pointer (some ⟨p.bp,0,none⟩)] 75)
 have hX:=Blk.new w 75 #[.pointer (some ⟨p.bp,0,none⟩)]
 have h1:=h.below hb0
 obtain ⟨_,_,n,hn,hn2,hn5,hd⟩:=zaG hO.tf
 obtain rfl:c.size=n:=by omega
 have hlen:s.st.length≤100:=by
  have:=(zbN hO.hf).1
  rw [←h.same,zek] at this
  omega
 have HUp:=Lib.hid (up_any _ h1.h hlen)
 have HDel:Hid (∀A cap w2,w2.ownsRow (w.alloc (.cells #[.pointer (some ⟨p.bp,0,none⟩)] 75)).heap.size 9 1 (.slice A (ups s.st).length cap) (ups s.st).length (zak (ups s.st))→Below (w.alloc (.cells #[.pointer (some ⟨p.bp,0,none⟩)] 75)).heap.size (w.alloc (.cells #[.pointer (some ⟨p.bp,0,none⟩)] 75)) w2→Calls Tryz.prog 187 #[.slice A (ups s.st).length cap,.func (.func 188) #[] #[.pointer (some ⟨w.heap.size,0,none⟩)]] w2 fun e w'=>∃A' cap',e= .returned (.slice A' (zaj s).length cap')∧zcr w' A' cap' (zaj s)∧Below (w.alloc (.cells #[.pointer (some ⟨p.bp,0,none⟩)] 75)).heap.size (w.alloc (.cells #[.pointer (some ⟨p.bp,0,none⟩)] 75)) w'):=Lib.hid fun A cap w2 ho hb2=>delOpen_any h hO hb0 (hX.cell 0) (Nat.le_refl _) ho hb2
 have c0:(w.alloc (.cells #[.pointer (some ⟨p.bp,0,none⟩)] 75)).cell? ⟨p.bp,0,none⟩=some (.pointer (some ⟨p.hp,0,none⟩)):=h1.blk.cell 0
 have cx:(w.alloc (.cells #[.pointer (some ⟨p.bp,0,none⟩)] 75)).cell? ⟨w.heap.size,0,none⟩=some (.pointer (some ⟨p.bp,0,none⟩)):=hX.cell 0
 have HC:Hid (∀W,Below (w.alloc (.cells #[.pointer (some ⟨p.bp,0,none⟩)] 75)).heap.size (w.alloc (.cells #[.pointer (some ⟨p.bp,0,none⟩)] 75)) W→W.cell? ⟨w.heap.size,0,none⟩=some (.pointer (some ⟨p.bp,0,none⟩))∧W.cell? ⟨p.bp,2,none⟩=some (.int .i64 (c.size:Int))):=Lib.hid fun W hW=>⟨(hX.below hW hX.lt).cell 0,(h1.below hW).blk.cell 2⟩
 have HB0:=Lib.hid hb0
 have HEW:Hid (∀W,Below (w.alloc (.cells #[.pointer (some ⟨p.bp,0,none⟩)] 75)).heap.size (w.alloc (.cells #[.pointer (some ⟨p.bp,0,none⟩)] 75)) W→zd4 ea W):=Lib.hid fun W hW=>(hE.below hb0).below hW
 have hsub:=openOf_sub s
 rw [h.same] at hsub
 have HMB:Hid (∀A cap W,zaj s=[]→zd4 ea W→zcr W A cap (zaj s)→Calls Tryz.prog 73 #[.slice A (zaj s).length cap,.int .i64 (c.size:Int)] W fun e w'=>e= .returned (.tuple #[.slice none 0 0,.iface 355 (.pointer (some (ea (gv 5))))])∧Below W.heap.size W w'):=Lib.hid fun A cap W h0 hEw hT=>by
  refine (make_bad ea A cap (zaj s) (c.size:Int) ⟨5,none⟩ W hEw hT (by unfold zah;rw [h0];rfl)).mono fun e w' ⟨t,a,he,⟨ht,ha⟩,hb⟩=>⟨?_,hb⟩
  subst ht;subst ha
  exact he
 have HMG:Hid (∀A cap W,zaj s≠[]→zd4 ea W→zcr W A cap (zaj s)→Calls Tryz.prog 73 #[.slice A (zaj s).length cap,.int .i64 (c.size:Int)] W (zdW (zaj s) c.size W)):=Lib.hid fun A cap W h0 hEw hT=>make_good ea A cap (zaj s) c.size W hEw hT (zdB hO.tf hsub (List.length_pos_iff.2 h0))
 have HSL:Hid (zaj s≠[]→∀j,j<c.size→∃q:Nat,(za2 (zaj s) c.size)[j]? =some (q:Int)∧q<(zaj s).length∧(zaj s)[q]? =some (zbn (zaj s) c.size j)):=Lib.hid fun h0 j hj=>zeG (List.length_pos_iff.2 h0) hn2 hd hj
 obtain ⟨T,j,hj,hjn,hTu,hm1,hm2,HT⟩:=turn_some k c.size hU hn2
 have hFP:Hid (∀e w',Below w.heap.size w w'→((zaj s=[]∧e= .returned (.tuple #[.string ⟨#[]⟩,errB ea 5]))∨(zaj s≠[]∧e= .returned (.tuple #[.string (zbn (zaj s) c.size j),.nilIface])))→zfY ea (zaj s) c.size k w e w'):=Lib.hid fun e w' h1 h2=>⟨h1,by rw [←hj.out];exact h2⟩
 have hl12:(zaj s).length≤12:=Nat.le_trans hsub.length_le (zbN hO.hf).1
 unfold ptr at HUp
 unfold zaL at HUp
 clear h h1 hE hO hX hb0 hsub hd hn hj hU hlen
 generalize c.size=n at*
 generalize zaj s=o at*
 generalize ups s.st=u at*
 go_enter Tryz.func150,Tryz.ntmps150
 go_wp2_with fail
 generalize hW1:w.alloc (.cells #[.pointer (some ⟨p.bp,0,none⟩)] 75)=W1 at*
 clear hW1
 refine HUp.out.mono ?_
 rintro e w2 ⟨A,cap,rfl,ho2,hb2⟩
 have HD2:=Lib.hid (HDel.out A cap w2 ho2 hb2)
 clear ho2 hb2 HUp HDel c0 cx
 go_wp2_with fail
 refine HD2.out.mono ?_
 rintro e w3 ⟨A',cap',rfl,hT3,hb3⟩
 obtain ⟨d0,d2⟩:=HC.out w3 hb3
 have hE3:=HEW.out w3 hb3
 have HB3:=Lib.hid hb3
 by_cases h0:o=[]
 ·have HM:=Lib.hid (HMB.out A' cap' w3 h0 hE3 hT3)
  have HF:=Lib.hid (fun w' (hb:Below w.heap.size w w')=>hFP.out _ w' hb (.inl ⟨h0,rfl⟩))
  clear hT3 hE3 hb3 HMB HMG HSL h0 HD2
  go_wp2_with fail
  refine HM.out.mono ?_
  rintro e w4 ⟨rfl,hb4⟩
  have HB4:=Lib.hid hb4
  clear hb4
  go_wp2
  go_ret2
  exact HF.out _ ((HB0.out.trans (HB3.out.mono HB0.out.size)).trans (HB4.out.mono (Nat.le_trans HB0.out.size HB3.out.size)))
 ·have HM:=Lib.hid (HMG.out A' cap' w3 h0 hE3 hT3)
  have HF:=Lib.hid (fun w' (hb:Below w.heap.size w w')=>hFP.out _ w' hb (.inr ⟨h0,rfl⟩))
  obtain ⟨q,hq,hql,hqo⟩:=HSL.out h0 j hjn
  have HR3:=Lib.hid hT3.r
  clear hE3 hb3 HMB HMG HSL h0 HD2 hFP
  unfold zdW at HM
  go_wp2_with fail
  refine HM.out.mono ?_
  rintro e w4 ⟨g,rfl,hg4,hgl,hb4⟩
  have hb34:=HB3.out.trans (hb4.mono HB3.out.size)
  obtain ⟨e0,e2⟩:=HC.out w4 hb34
  have ej:w4.cell? ⟨g,j,none⟩=some (.int .i64 (q:Int)):=by
   rw [hg4.cell j,zdm]
   simp [hq,intV]
  obtain ⟨ad,u',hA,hadb,hu',hcq⟩:=HR3.out.at_ hql
  subst hA
  have eq_:w4.cell? (ad.add q)=some (.string (zbn o n j)):=by
   rw [hb4.cell (by rw [zaN];exact hadb),hcq,←hu']
   simp [zak,hqo]
  have HB4:=Lib.hid hb34
  have hj2:(j:Int)<n:=by omega
  have hql2:(q:Int)<o.length:=by omega
  have hnz:¬(n:Int)=0:=by omega
  have hwn:IntKind.u64.wrap (n:Int)=(n:Int):=IntWalk.u64_in _ (by omega)
  have hT0:(0:Int)≤(T:Int):=by omega
  generalize zbn o n j=ht at*
  clear hg4 hgl hb4 hb34 hq hql hqo hu' hcq hadb HR3 d0 d2 hTu
  go_wp2_with fail
  go_quiet ((go_at_call 176;exact zeF (HT.out _)))
  go_wp2
  go_ret2
  exact HF.out _ (below_drewN (HB0.out.trans (HB4.out.mono HB0.out.size)) _)
end Go.Proofs.YthkfhfldoniolaaGreatDoor
namespace Go.Proofs.YthkfhfldoniolaaGreatDoor
open Go.RowKit
def zee (s:BS) (k:Nat) (now:Int):Option ByteArray:=match ze1 s.fs.2 k now with
 |some x=>if ze0 s.st x=true then some x else none
 |none=>none
def zbz (c:zb7) (s:BS) (k:Nat) (now:Int):(ByteArray×Bool×Nat)×BS:=
 if zbL s.fs.1 now=0 then
  match zee s k now with
  |some x=>((x,true,0),{ s with fs:=(now.toNat,zeg s.fs.2 ⟨k,x,now+c.time⟩) })
  |none=>if zaj s=[] then ((⟨#[]⟩,false,5),{ s with fs:=(now.toNat,s.fs.2) })
   else ((zbn (zaj s) c.size (Mx.turn k%c.size),false,0),{ s with fs:=(now.toNat,zeg s.fs.2 ⟨k,zbn (zaj s) c.size (Mx.turn k%c.size),now+c.time⟩) })
 else ((⟨#[]⟩,false,zbL s.fs.1 now),s)
structure zbO (ea:Nat→Addr) (w:World):Prop where
 t:zd4 ea w
 f:ErrsF ea w
theorem zbO.below {ea:Nat→Addr} {w w':World} (h:zbO ea w) (hb:Below w.heap.size w w'):zbO ea w':=⟨h.t.below hb,h.f.below hb⟩
theorem zaR.apart {w:World} {lo g:Nat} {p:BPl} {c:zb7} {s:BS} {t:TypeId} {v:Value} (h:zaR w lo p c s) (hc:w.cell? ⟨g,0,none⟩=some (.iface t v)):g∉p.bs:=by
 intro hg
 have hmap:∀{es} {cl},w.heap[g]? =some (.map es cl)→False:=fun {es cl} hm=>by simp [World.cell?,hm] at hc
 unfold BPl.bs at hg
 simp only [List.mem_cons] at hg
 rcases hg with rfl|rfl|rfl|rfl|hg
 ·have:=h.blk.cell 0;rw [hc] at this;cases this
 ·have:=h.f.c0;rw [hc] at this;cases this
 ·obtain ⟨es,cl,hm⟩:=h.f.map.heap;exact hmap hm
 ·obtain ⟨es,cl,hm⟩:=h.d.heap;exact hmap hm
 ·obtain ⟨x,hx⟩:=h.pbs hg
  have:=hx.cell 0;rw [hc] at this;cases this
theorem zbO.turn {ea:Nat→Addr} {w w':World} {lo:Nat} {p:BPl} {c:zb7} {s:BS} {bs:List Nat} (hE:zbO ea w) (h:zaR w lo p c s) (ht:zam bs w w') (hs:∀b∈bs,b∈p.bs):zbO ea w':=by
 have ht':=ht.more hs
 have hk:∀{g t v},w.cell? ⟨g,0,none⟩=some (.iface t v)→w'.cell? ⟨g,0,none⟩=some (.iface t v):=fun hc=>ht'.cell hc (h.apart hc)
 exact ⟨⟨⟨hk hE.t.e3.c2,hk hE.t.e3.c4,hk hE.t.e3.c6⟩,⟨hk hE.t.z.c2,hk hE.t.z.c3⟩,hk hE.t.c5⟩,⟨hk hE.f.c2,hk hE.f.c4,hk hE.f.c8⟩⟩
def zcP (ea:Nat→Addr) (lo:Nat) (p:BPl) (c:zb7) (r:(ByteArray×Bool×Nat)×BS) (w:World) (e:Ending) (w':World):Prop:=
 e= .returned (.tuple #[.string r.1.1,.bool r.1.2.1,errZ ea r.1.2.2])∧zaR w' lo p c r.2∧zam [p.fp,p.mb] w w'
theorem upOf_mem {st:List St} {x:ByteArray} (h:ze0 st x=true):x∈hosts st:=by
 by_cases hm:x∈hosts st
 ·exact hm
 ·have hi:idx (hosts st) x= -1:=zbV fun t ht e=>hm (by rw [e];exact ht)
  unfold ze0 at h
  rw [hi] at h
  cases h
theorem zeO {l:List ByteArray} {n i:Nat} (h0:l≠[]) (hf:zah l (n:Int)=none) (hi:i<n):zbn l n i∈l:=by
 obtain ⟨_,_,m,hm,hm2,hm5,hd⟩:=zaG hf
 obtain rfl:n=m:=by omega
 obtain ⟨q,_,hq,hh⟩:=zeG (List.length_pos_iff.2 h0) hm2 hd hi
 exact List.mem_of_getElem? hh
set_option maxRecDepth 100000 in
theorem pick_tick (ea:Nat→Addr) {lo:Nat} {p:BPl} {c:zb7} {s:BS} (k:Nat) (now:Int) (w:World) (hE:zbO ea w) (h:zaR w lo p c s) (ht:zbL s.fs.1 now≠0):
 Calls Tryz.prog 95 #[.pointer (some ⟨p.bp,0,none⟩),.int .u64 (k:Int),.int .i64 now] w (zcP ea lo p c ((⟨#[]⟩,false,zbL s.fs.1 now),s) w):=by
 have HG:=Lib.hid (get_bad ea k now w hE.f h.f ht)
 unfold GetErr errB at HG
 have c3:w.cell? ⟨p.bp,3,none⟩=some (.pointer (some ⟨p.fp,0,none⟩)):=h.blk.cell 3
 have HP:Hid (zcP ea lo p c ((⟨#[]⟩,false,zbL s.fs.1 now),s) w (.returned (.tuple #[.string ⟨#[]⟩,.bool false,errB ea (zbL s.fs.1 now)])) w):=Lib.hid ⟨by dsimp only;rw [errZ_some ea ht],h,zam.refl _ _⟩
 unfold errB at HP
 generalize zbL s.fs.1 now=te at*
 clear hE h ht
 go_enter Tryz.func95,Tryz.ntmps95
 go_wp2_with fail
 refine HG.out.mono ?_
 rintro e w1 ⟨rfl,rfl⟩
 go_wp2
 go_ret3
 exact HP.out
structure PickH (ea:Nat→Addr) (lo:Nat) (p:BPl) (c:zb7) (s:BS) (k n:Nat) (so:ByteArray) (bo ub:Bool) (w:World):Prop where
 g:Calls Tryz.prog 148 #[.pointer (some ⟨p.fp,0,none⟩),.int .u64 (k:Int),.int .i64 (n:Int)] w fun e w'=>e= .returned (.tuple #[.string so,.bool bo,.nilIface])∧zaR w' lo p c { s with fs:=(n,s.fs.2) }∧zam [p.fp,p.mb] w w'
 i:∀W,zaR W lo p c { s with fs:=(n,s.fs.2) }→Calls Tryz.prog 149 #[.pointer (some ⟨p.hp,0,none⟩),.string so] W fun e w'=>e= .returned (.bool ub)∧Below W.heap.size W w'
 u:∀W y,zaR W lo p c { s with fs:=(n,s.fs.2) }→isName y=true→y.size≤maxLen→Calls Tryz.prog 151 #[.pointer (some ⟨p.fp,0,none⟩),.int .u64 (k:Int),.string y,.int .i64 (n:Int)] W fun e w'=>e= .returned .nilIface∧zaR w' lo p c { s with fs:=(n,zeg s.fs.2 ⟨k,y,(n:Int)+c.time⟩) }∧zam [p.fp,p.mb] W w'
theorem pickH (ea:Nat→Addr) {lo:Nat} {p:BPl} {c:zb7} {s:BS} (k n:Nat) (w:World) (h:zaR w lo p c s) (hU:U64 k) (h1:s.fs.1≤n) (h2:n≤1099511627776):
 PickH ea lo p c s k n ((ze1 s.fs.2 k n).getD ⟨#[]⟩) (ze1 s.fs.2 k n).isSome (ze0 s.st ((ze1 s.fs.2 k n).getD ⟨#[]⟩)) w:=by
 refine ⟨(get_ok k n w h.f hU h1 h2).mono fun e w' ⟨a,b,t⟩=> ?_,fun W hW=>(is_op _ W hW.h).mono fun e w' hh=>hh,fun W y hW hn hs=>(put_ok k y n W hW.f hU hs hn (Nat.le_refl _) h2).mono fun e w' ⟨a,b,t⟩=>⟨a, ?_,t⟩⟩
 ·have ht:zam [p.fp,p.mb] w w':=t.more (by simp)
  refine ⟨?_,h.turnF (fs':=(n,s.fs.2)) b ht,ht⟩
  rw [a]
  cases ze1 s.fs.2 k n<;>rfl
 ·exact hW.turnF (fs':=(n,zeg s.fs.2 ⟨k,y,(n:Int)+c.time⟩)) b t
set_option maxRecDepth 100000 in
theorem pick_kept (ea:Nat→Addr) {lo:Nat} {p:BPl} {c:zb7} {s:BS} (k n:Nat) (so:ByteArray) (w:World) (h:zaR w lo p c s) (H:PickH ea lo p c s k n so true true w) (hn:isName so=true) (hz:so.size≤maxLen):
 Calls Tryz.prog 95 #[.pointer (some ⟨p.bp,0,none⟩),.int .u64 (k:Int),.int .i64 (n:Int)] w (zcP ea lo p c ((so,true,0),{ s with fs:=(n,zeg s.fs.2 ⟨k,so,(n:Int)+c.time⟩) }) w):=by
 have HG:=Lib.hid H.g
 have HI:=Lib.hid H.i
 have HU:=Lib.hid (fun W hW=>H.u W so hW hn hz)
 have c3:w.cell? ⟨p.bp,3,none⟩=some (.pointer (some ⟨p.fp,0,none⟩)):=h.blk.cell 3
 have HP:Hid (∀w',zaR w' lo p c { s with fs:=(n,zeg s.fs.2 ⟨k,so,(n:Int)+c.time⟩) }→zam [p.fp,p.mb] w w'→zcP ea lo p c ((so,true,0),{ s with fs:=(n,zeg s.fs.2 ⟨k,so,(n:Int)+c.time⟩) }) w (.returned (.tuple #[.string so,.bool true,.nilIface])) w'):=Lib.hid fun w' a b=>⟨rfl,a,b⟩
 clear h H hn hz
 go_enter Tryz.func95,Tryz.ntmps95
 go_wp2_with fail
 refine HG.out.mono ?_
 rintro e w1 ⟨rfl,hB1,ht1⟩
 have d0:w1.cell? ⟨p.bp,0,none⟩=some (.pointer (some ⟨p.hp,0,none⟩)):=hB1.blk.cell 0
 have HI1:=Lib.hid (HI.out w1 hB1)
 have HB1:=Lib.hid hB1
 have HT1:=Lib.hid ht1
 clear hB1 ht1 c3 HI
 go_wp2_with fail
 refine HI1.out.mono ?_
 rintro e w2 ⟨rfl,hb2⟩
 have hB2:=HB1.out.below hb2
 have e3:w2.cell? ⟨p.bp,3,none⟩=some (.pointer (some ⟨p.fp,0,none⟩)):=hB2.blk.cell 3
 have HU2:=Lib.hid (HU.out w2 hB2)
 have HT2:=Lib.hid (HT1.out.zd6 hb2)
 clear hB2 hb2 HU HI1 d0
 go_wp2_with fail
 refine HU2.out.mono ?_
 rintro e w3 ⟨rfl,hB3,ht3⟩
 have HF:=Lib.hid (HP.out w3 hB3 (HT2.out.then ht3))
 clear hB3 ht3
 go_wp2
 go_ret3
 exact HF.out
set_option maxRecDepth 100000 in
theorem pick_fresh (ea:Nat→Addr) {lo:Nat} {p:BPl} {c:zb7} {s:BS} (k n:Nat) (so:ByteArray) (bo ub:Bool) (w:World) (hE:zbO ea w) (h:zaR w lo p c s) (hO:BOk c) (hU:U64 k) (H:PickH ea lo p c s k n so bo ub w) (hk:bo=false∨ub=false):
 Calls Tryz.prog 95 #[.pointer (some ⟨p.bp,0,none⟩),.int .u64 (k:Int),.int .i64 (n:Int)] w (zcP ea lo p c (if zaj s=[] then ((⟨#[]⟩,false,5),{ s with fs:=(n,s.fs.2) }) else ((zbn (zaj s) c.size (Mx.turn k%c.size),false,0),{ s with fs:=(n,zeg s.fs.2 ⟨k,zbn (zaj s) c.size (Mx.turn k%c.size),(n:Int)+c.time⟩) })) w):=by
 have HG:=Lib.hid H.g
 have HI:=Lib.hid H.i
 have c3:w.cell? ⟨p.bp,3,none⟩=some (.pointer (some ⟨p.fp,0,none⟩)):=h.blk.cell 3
 have HFR:Hid (∀W W2,zam [p.fp,p.mb] w W→zaR W lo p c { s with fs:=(n,s.fs.2) }→Below W.heap.size W W2→Calls Tryz.prog 150 #[.pointer (some ⟨p.bp,0,none⟩),.int .u64 (k:Int)] W2 (zfY ea (zaj s) c.size k W2)):=Lib.hid fun W W2 hT hB hb=>
  fresh_any (s:={ s with fs:=(n,s.fs.2) }) ea k W2 ((hE.turn h hT p.fm).below hb).t (hB.below hb) hO hU
 have hsub:=openOf_sub s
 rw [h.same] at hsub
 have htf:zaj s≠[]→zah (zaj s) (c.size:Int)=none:=fun h0=>zdB hO.tf hsub (List.length_pos_iff.2 h0)
 have hin:zaj s≠[]→isName (zbn (zaj s) c.size (Mx.turn k%c.size))=true∧(zbn (zaj s) c.size (Mx.turn k%c.size)).size≤maxLen:=fun h0=>by
  obtain ⟨_,_,m,hm,hm2,_⟩:=zaG hO.tf
  have hmem:=hsub.subset (zeO h0 (htf h0) (Nat.mod_lt (Mx.turn k) (by omega:0<c.size)))
  have hnm:=(zal.1 hO.hf).2.1 _ hmem
  exact ⟨hnm,(zbN hO.hf).2 _ hmem⟩
 have HU:=Lib.hid (fun W hW h0=>H.u W (zbn (zaj s) c.size (Mx.turn k%c.size)) hW (hin h0).1 (hin h0).2)
 have HP1:Hid (∀w',zaj s=[]→zaR w' lo p c { s with fs:=(n,s.fs.2) }→zam [p.fp,p.mb] w w'→zcP ea lo p c (if zaj s=[] then ((⟨#[]⟩,false,5),{ s with fs:=(n,s.fs.2) }) else ((zbn (zaj s) c.size (Mx.turn k%c.size),false,0),{ s with fs:=(n,zeg s.fs.2 ⟨k,zbn (zaj s) c.size (Mx.turn k%c.size),(n:Int)+c.time⟩) })) w (.returned (.tuple #[.string ⟨#[]⟩,.bool false,errB ea 5])) w'):=Lib.hid fun w' h0 a b=>by rw [if_pos h0];exact ⟨rfl,a,b⟩
 have HP2:Hid (∀w',zaj s≠[]→zaR w' lo p c { s with fs:=(n,zeg s.fs.2 ⟨k,zbn (zaj s) c.size (Mx.turn k%c.size),(n:Int)+c.time⟩) }→zam [p.fp,p.mb] w w'→zcP ea lo p c (if zaj s=[] then ((⟨#[]⟩,false,5),{ s with fs:=(n,s.fs.2) }) else ((zbn (zaj s) c.size (Mx.turn k%c.size),false,0),{ s with fs:=(n,zeg s.fs.2 ⟨k,zbn (zaj s) c.size (Mx.turn k%c.size),(n:Int)+c.time⟩) })) w (.returned (.tuple #[.string (zbn (zaj s) c.size (Mx.turn k%c.size)),.bool false,.nilIface])) w'):=Lib.hid fun w' h0 a b=>by rw [if_neg h0];exact ⟨rfl,a,b⟩
 unfold zfY errB at HFR
 unfold errB at HP1
 generalize zcP ea lo p c (if zaj s=[] then ((⟨#[]⟩,false,5),{ s with fs:=(n,s.fs.2) }) else ((zbn (zaj s) c.size (Mx.turn k%c.size),false,0),{ s with fs:=(n,zeg s.fs.2 ⟨k,zbn (zaj s) c.size (Mx.turn k%c.size),(n:Int)+c.time⟩) })) w=PP at*
 generalize zbn (zaj s) c.size (Mx.turn k%c.size)=y at*
 generalize zaj s=o at*
 clear h H hE hsub htf hin hO hU
 have hway:(bo=false)∨(bo=true∧ub=false):=by rcases hk with h|h<;>cases bo<;>cases ub<;>simp_all
 clear hk
 rcases hway with rfl|⟨rfl,rfl⟩
 ·go_enter Tryz.func95,Tryz.ntmps95
  go_wp2_with fail
  refine HG.out.mono ?_
  rintro e w1 ⟨rfl,hB1,ht1⟩
  have HFR1:=Lib.hid (HFR.out w1 w1 ht1 hB1 (Below.refl _ _))
  have HB1:=Lib.hid hB1
  have HT1:=Lib.hid ht1
  clear hB1 ht1 c3 HI HFR
  go_wp2_with fail
  refine HFR1.out.mono ?_
  rintro e w3 ⟨hb3,hp3⟩
  have hB3:=HB1.out.below hb3
  have HT3:=Lib.hid (HT1.out.zd6 hb3)
  have e3:w3.cell? ⟨p.bp,3,none⟩=some (.pointer (some ⟨p.fp,0,none⟩)):=hB3.blk.cell 3
  have HB3:=Lib.hid hB3
  clear hB3 hb3 HFR1 HB1 HT1
  rcases hp3 with ⟨h0,rfl⟩|⟨h0,rfl⟩
  ·have HF:=Lib.hid (HP1.out w3 h0 HB3.out HT3.out)
   clear h0 HU HP1 HP2
   go_wp2
   go_ret3
   exact HF.out
  ·have HU3:=Lib.hid (HU.out w3 HB3.out h0)
   have HP3:=Lib.hid (fun w'=>HP2.out w' h0)
   clear h0 HU HP1 HP2
   go_wp2_with fail
   refine HU3.out.mono ?_
   rintro e w4 ⟨rfl,hB4,ht4⟩
   have HF:=Lib.hid (HP3.out w4 hB4 (HT3.out.then ht4))
   clear hB4 ht4
   go_wp2
   go_ret3
   exact HF.out
 ·go_enter Tryz.func95,Tryz.ntmps95
  go_wp2_with fail
  refine HG.out.mono ?_
  rintro e w1 ⟨rfl,hB1,ht1⟩
  have d0:w1.cell? ⟨p.bp,0,none⟩=some (.pointer (some ⟨p.hp,0,none⟩)):=hB1.blk.cell 0
  have HI1:=Lib.hid (HI.out w1 hB1)
  have HFR1:=Lib.hid (fun w2 hb=>HFR.out w1 w2 ht1 hB1 hb)
  have HB1:=Lib.hid hB1
  have HT1:=Lib.hid ht1
  clear hB1 ht1 c3 HI HFR
  go_wp2_with fail
  refine HI1.out.mono ?_
  rintro e w2 ⟨rfl,hb2⟩
  have HFR2:=Lib.hid (HFR1.out w2 hb2)
  have HB2:=Lib.hid (HB1.out.below hb2)
  have HT2:=Lib.hid (HT1.out.zd6 hb2)
  clear hb2 HI1 d0 HFR1 HB1 HT1
  go_wp2_with fail
  refine HFR2.out.mono ?_
  rintro e w3 ⟨hb3,hp3⟩
  have hB3:=HB2.out.below hb3
  have HT3:=Lib.hid (HT2.out.zd6 hb3)
  have e3:w3.cell? ⟨p.bp,3,none⟩=some (.pointer (some ⟨p.fp,0,none⟩)):=hB3.blk.cell 3
  have HB3:=Lib.hid hB3
  clear hB3 hb3 HFR2 HB2 HT2
  rcases hp3 with ⟨h0,rfl⟩|⟨h0,rfl⟩
  ·have HF:=Lib.hid (HP1.out w3 h0 HB3.out HT3.out)
   clear h0 HU HP1 HP2
   go_wp2
   go_ret3
   exact HF.out
  ·have HU3:=Lib.hid (HU.out w3 HB3.out h0)
   have HP3:=Lib.hid (fun w'=>HP2.out w' h0)
   clear h0 HU HP1 HP2
   go_wp2_with fail
   refine HU3.out.mono ?_
   rintro e w4 ⟨rfl,hB4,ht4⟩
   have HF:=Lib.hid (HP3.out w4 hB4 (HT3.out.then ht4))
   clear hB4 ht4
   go_wp2
   go_ret3
   exact HF.out
theorem pick_any (ea:Nat→Addr) {lo:Nat} {p:BPl} {c:zb7} {s:BS} (k:Nat) (now:Int) (w:World) (hE:zbO ea w) (h:zaR w lo p c s) (hO:BOk c) (hU:U64 k):
 Calls Tryz.prog 95 #[.pointer (some ⟨p.bp,0,none⟩),.int .u64 (k:Int),.int .i64 now] w (zcP ea lo p c (zbz c s k now) w):=by
 unfold zbz
 by_cases ht:zbL s.fs.1 now=0
 ·rw [if_pos ht]
  obtain ⟨n,rfl,h1,h2⟩:=tickE_ok ht
  have H:=pickH ea k n w h hU h1 h2
  unfold zee
  rw [Int.toNat_natCast]
  cases hg:ze1 s.fs.2 k (n:Int) with
  |none=>
   rw [hg] at H
   exact pick_fresh ea k n _ false _ w hE h hO hU H (.inl rfl)
  |some x=>
   rw [hg] at H
   dsimp only [Option.getD,Option.isSome] at H
   by_cases hu:ze0 s.st x=true
   ·dsimp only
    rw [if_pos hu]
    rw [hu] at H
    have hm:x∈c.hosts:=by rw [←h.same];exact upOf_mem hu
    exact pick_kept ea k n x w h H ((zal.1 hO.hf).2.1 x hm) ((zbN hO.hf).2 x hm)
   ·dsimp only
    rw [if_neg hu]
    exact pick_fresh ea k n x true _ w hE h hO hU H (.inr (by simpa using hu))
 ·rw [if_neg ht]
  exact pick_tick ea k now w hE h ht
end Go.Proofs.YthkfhfldoniolaaGreatDoor
