/-
  The walks of the Builder's methods at carry's page, whose block bears the page's own type. The walk of a page's line. The walk of carry's Text.
-/
import Derived.Test.YthkfhfldoniolaaGreatDoorBaseA
import Derived.Test.YthkfhfldoniolaaGreatDoorShelfC
import Derived.Shelf.Strings.BuilderK
import Derived.BigQuiet
import Derived.Deep.QuietTactic
import Derived.Deep.RegionWith
import Derived.Test.YthkfhfldoniolaaGreatDoorCarLaws
import Derived.Test.YthkfhfldoniolaaGreatDoorHexNum
set_option maxHeartbeats 2000000
namespace Go.Proofs.YthkfhfldoniolaaGreatDoor
open Go.RowKit
abbrev PgAt (B b:Nat) (p:Value) (l:List UInt8) (w:World):Prop:=Lib.BuilderAtF 286 5 B b p (Lib.byteCells l) w
def Pg (B b:Nat) (l:List UInt8) (w:World):Prop:=PgAt B b (.pointer none) l w∨PgAt B b (.pointer (some ⟨b,0,none⟩)) l w
theorem pgAt_grown {B b:Nat} {p:Value} {l:List UInt8} {w w':World} (h:PgAt B b p l w) (hb:Below w.heap.size w w'):PgAt B b p l w':=by
 have hlt:=h.lt
 obtain ⟨hB,v,hbk,hown,hne⟩:=h
 refine ⟨hB,v,(hb.block b hlt).trans hbk,hown.kept (row:=none) ⟨hb.os,hb.tape,hb.output,hb.size,fun k hk _=>hb.block k hk⟩ ?_,hne⟩
 cases hv:v.ownBlock<;>simp
theorem Pg.below {B b:Nat} {l:List UInt8} {w w':World} (h:Pg B b l w) (hb:Below w.heap.size w w'):Pg B b l w':=h.elim (fun x=> .inl (pgAt_grown x hb)) (fun x=> .inr (pgAt_grown x hb))
theorem Pg.made (w:World):Pg w.heap.size w.heap.size [] (w.alloc (.cells #[.pointer none,.slice none 0 0] 286)):=
 .inl ⟨Nat.le_refl _,_,Blk.new _ _ _,World.ownsRowF_nil _ _ _ _,by simp [Value.ownBlock]⟩
theorem info_byteP:(Tryz.prog.info? 5).map (fun i=>(i.zero,i.size,i.bytes))=some (some (.int .u8 0),1,1):=by kernel_rfl
theorem zfJ:(Tryz.prog.info? 261).map (·.size)=some 2:=by kernel_rfl
theorem lies_page:liesAt Tryz.prog Tryz.prog.depth 286 (2/Tryz.prog.cellsOf 286) 0 261 1=true:=by kernel_rfl
set_option maxRecDepth 100000 in
theorem copy_used (b:Nat) (w:World) (h0:w.cell? ⟨b,0,none⟩=some (.pointer (some ⟨b,0,none⟩))):
 Calls Tryz.prog 219 #[.pointer (some ⟨b,0,none⟩)] w fun e w'=>e= .returned (.tuple #[])∧w'=w:=by
 obtain ⟨j,hj,_⟩:=Option.map_eq_some_iff.1 zfJ
 go_enter Tryz.func219,Tryz.ntmps219
 go_wp2
 rw [Lib.run_neq_ptr_same w _ Tryz.underlying259 hj]
 go_wp2
 go_end0
 exact ⟨rfl,rfl⟩
set_option maxRecDepth 100000 in
theorem copy_fresh (b:Nat) (w:World) (h0:w.cell? ⟨b,0,none⟩=some (.pointer none)) (hsh:w.shape? b=some (286,2)) (hfz:w.frozen? ⟨b,0,none⟩=false):
 Calls Tryz.prog 219 #[.pointer (some ⟨b,0,none⟩)] w fun e w'=>e= .returned (.tuple #[])∧w'=w.setCell ⟨b,0,none⟩ (.pointer (some ⟨b,0,none⟩)):=by
 obtain ⟨j,hj,hjs⟩:=Option.map_eq_some_iff.1 zfJ
 go_enter Tryz.func219,Tryz.ntmps219
 go_wp2
 rw [Lib.run_to_unsafe w ⟨b,0,none⟩ Tryz.underlying259 Tryz.underlying171 hj (by rw [hjs];decide) hsh (Nat.zero_lt_succ 1)]
 simp only [Result.andThen]
 rw [Oper.upon_value]
 go_wp2
 rw [run_callFunc_extern Tryz.func256 (by kernel_rfl) (by kernel_rfl) (by kernel_rfl) (e:=Extern.AbiNoEscape.same) (by kernel_rfl)]
 rw [Lib.run_noEscape]
 simp only [Result.andThen]
 rw [Oper.upon_value]
 go_wp2
 rw [Lib.run_from_unsafe w ⟨b,0,none⟩ Tryz.underlying171 Tryz.underlying259 hj hsh lies_page]
 simp only [Result.andThen]
 rw [Oper.upon_value]
 go_wp2
 go_end0
 exact ⟨rfl,rfl⟩
theorem copy_any (B b:Nat) (l:List UInt8) (w:World) (h:Pg B b l w):
 Calls Tryz.prog 219 #[.pointer (some ⟨b,0,none⟩)] w fun e w'=>e= .returned (.tuple #[])∧PgAt B b (.pointer (some ⟨b,0,none⟩)) l w'∧Below B w w':=by
 rcases h with h|h
 ·refine (copy_fresh b w h.cell0 h.shape h.frozen0).mono ?_
  rintro e w' ⟨rfl,rfl⟩
  exact ⟨rfl,h.used _,(Below.refl B w).setCell (p:=⟨b,0,none⟩) h.1 _⟩
 ·refine (copy_used b w h.cell0).mono ?_
  rintro e w' ⟨rfl,rfl⟩
  exact ⟨rfl,h,Below.refl B _⟩
def Put (B b:Nat) (l:List UInt8) (v:Value) (w:World) (e:Ending) (w':World):Prop:=e= .returned v∧PgAt B b (.pointer (some ⟨b,0,none⟩)) l w'∧Below B w w'
set_option maxRecDepth 100000 in
theorem putByte_any (B b:Nat) (l:List UInt8) (c:UInt8) (w:World) (h:Pg B b l w) (hlen:l.length≤100000) (hBw:B≤w.heap.size):
 Calls Tryz.prog 247 #[.pointer (some ⟨b,0,none⟩),.int .u8 (c.toNat:Int)] w (Put B b (l++[c]) .nilIface w):=by
 obtain ⟨i0,hi,hz0,hz1,hz2⟩:=info_parts info_byteP
 have HC:=copy_any B b l w h
 clear h
 have hbl:(Lib.byteCells l).length=l.length:=Lib.byteCells_length l
 have hbs:Lib.byteCells (l++[c])=Lib.byteCells l++[.int .u8 (c.toNat:Int)]:=by simp [Lib.byteCells]
 unfold Put
 go_enter Tryz.func247,Tryz.ntmps247
 go_wp2_with (go_at_call 219;refine HC.mono ?_)
 rintro e w1 ⟨rfl,h1,hb1⟩
 obtain ⟨hB,v,hbk,hown,hne⟩:=h1
 have c0:w1.cell? ⟨b,0,none⟩=some (.pointer (some ⟨b,0,none⟩)):=by rw [Lib.cell_of_heap hbk];rfl
 have c1:w1.cell? ⟨b,1,none⟩=some v:=by rw [Lib.cell_of_heap hbk];rfl
 rw [hbl] at hown
 go_wp2_with (at_builtin;refine wpList_append_ownF _ rfl _ _ 185 rfl B 5 i0 (.int .u8 0) 1 1 Tryz.underlying185 hi hz0 hz1 hz2 rfl (by decide) _ l.length _ rfl (hown.alloc _) ⟨w1.heap.size,0,none⟩ 1 1 [.int .u8 (c.toNat:Int)] rfl rfl ?c1 ?c2 ?c3 ?c4 ?c5 ?_)
 case c1=>
  intro j u hj
  match j,hj with
  |0,hj=>simp at hj;subst hj;simp [Addr.add]
 case c2=>intro u hu;simp at hu;subst hu;rfl
 case c3=>unfold maxLen;omega
 case c4=>omega
 case c5=>have:=hb1.size;simp;omega
 intro v' w2 hown' hgrow _
 have hlt:b<w1.heap.size:=by
  rcases Nat.lt_or_ge b w1.heap.size with h'|h'
  ·exact h'
  ·simp [Array.getElem?_eq_none h'] at hbk
 have hb2:w2.heap[b]? =some (.cells #[.pointer (some ⟨b,0,none⟩),v] 286 (0,0)):=by
  rw [hgrow.block b (by simp;omega) (fun e=>hne e.symm),Lib.alloc_old w1 _ b hlt]
  exact hbk
 have d0:w2.cell? ⟨b,0,none⟩=some (.pointer (some ⟨b,0,none⟩)):=by rw [Lib.cell_of_heap hb2];rfl
 have d1:w2.cell? ⟨b,1,none⟩=some v:=by rw [Lib.cell_of_heap hb2];rfl
 have f1:w2.frozen? ⟨b,1,none⟩=false:=Lib.frozen_of_heap hb2 1
 obtain ⟨g,cap,rfl⟩:∃g cap,v'= .slice (some ⟨g,0,none⟩) (l.length+1) cap:=by
  rcases hown'.2 with ⟨_,h0⟩|⟨g,cap,cur,fz,hv,_⟩
  ·omega
  ·exact ⟨g,cap,hv⟩
 go_wp2
 go_ret
 refine ⟨rfl, ?_, ?_⟩
 ·exact Lib.BuilderAtF.put (T:=286) (e:=5) hB hb2 (bs':=Lib.byteCells (l++[c])) (by rw [hbs];simpa [hbl] using hown') (by decide)
 ·exact ((hb1.alloc (by have:=hb1.size;omega) _).grown hgrow (by have:=hb1.size;simp;omega) (fun k hk=>(hown.lt k hk).1)).setCell (p:=⟨b,1,none⟩) hB _
set_option maxRecDepth 100000 in
theorem putString_any (B b:Nat) (l:List UInt8) (s:ByteArray) (w:World) (h:Pg B b l w) (hlen:l.length≤100000) (hs:s.size≤100000) (hBw:B≤w.heap.size):
 Calls Tryz.prog 174 #[.pointer (some ⟨b,0,none⟩),.string s] w (Put B b (l++s.data.toList) (.tuple #[.int .i64 s.size,.nilIface]) w):=by
 obtain ⟨i0,hi,hz0,hz1,hz2⟩:=info_parts info_byteP
 have HC:=copy_any B b l w h
 clear h
 have hbl:(Lib.byteCells l).length=l.length:=Lib.byteCells_length l
 have hbs:Lib.byteCells (l++s.data.toList)=Lib.byteCells l++Lib.strCells s:=by simp [Lib.byteCells,Lib.strCells]
 have hsl:s.data.toList.length=s.size:=by simp
 unfold Put
 go_enter Tryz.func174,Tryz.ntmps174
 go_wp2_with (go_at_call 219;refine HC.mono ?_)
 rintro e w1 ⟨rfl,h1,hb1⟩
 obtain ⟨hB,v,hbk,hown,hne⟩:=h1
 have c0:w1.cell? ⟨b,0,none⟩=some (.pointer (some ⟨b,0,none⟩)):=by rw [Lib.cell_of_heap hbk];rfl
 have c1:w1.cell? ⟨b,1,none⟩=some v:=by rw [Lib.cell_of_heap hbk];rfl
 rw [hbl] at hown
 go_wp2_with (at_builtin;refine Lib.wpList_append_own_stringF _ rfl _ _ 185 9 rfl B 5 i0 Tryz.underlying185 Tryz.underlying9 hi hz0 hz1 hz2 _ l.length _ rfl hown s rfl ?c3 ?c4 ?c5 ?_)
 case c3=>unfold maxLen;omega
 case c4=>omega
 case c5=>have:=hb1.size;omega
 intro v' w2 hown' hgrow _
 have hlt:b<w1.heap.size:=by
  rcases Nat.lt_or_ge b w1.heap.size with h'|h'
  ·exact h'
  ·simp [Array.getElem?_eq_none h'] at hbk
 have hb2:w2.heap[b]? =some (.cells #[.pointer (some ⟨b,0,none⟩),v] 286 (0,0)):=by
  rw [hgrow.block b hlt (fun e=>hne e.symm)]
  exact hbk
 have d0:w2.cell? ⟨b,0,none⟩=some (.pointer (some ⟨b,0,none⟩)):=by rw [Lib.cell_of_heap hb2];rfl
 have d1:w2.cell? ⟨b,1,none⟩=some v:=by rw [Lib.cell_of_heap hb2];rfl
 have f1:w2.frozen? ⟨b,1,none⟩=false:=Lib.frozen_of_heap hb2 1
 obtain ⟨ao,n',cap,rfl⟩:∃ao n' cap,v'= .slice ao n' cap:=by
  rcases hown'.2 with ⟨hv,_⟩|⟨g,cap,cur,fz,hv,_⟩
  ·exact ⟨_,_,_,hv⟩
  ·exact ⟨_,_,_,hv⟩
 go_wp2
 go_ret2
 refine ⟨rfl, ?_, ?_⟩
 ·exact Lib.BuilderAtF.put (T:=286) (e:=5) hB hb2 (bs':=Lib.byteCells (l++s.data.toList)) (by rw [hbs];simpa [hbl,Lib.strCells_length] using hown') (by decide)
 ·exact (hb1.grown hgrow (by have:=hb1.size;omega) (fun k hk=>(hown.lt k hk).1)).setCell (p:=⟨b,1,none⟩) hB _
set_option maxRecDepth 100000 in
theorem zf1 (B b:Nat) (l:List UInt8) (w:World) (h:Pg B b l w) (h0:l≠[]):
 Calls Tryz.prog 175 #[.pointer (some ⟨b,0,none⟩)] w fun e w'=>e= .returned (.string ⟨l.toArray⟩)∧Pg B b l w'∧Below B w w':=by
 obtain ⟨p,hp,hAt⟩:∃p,(p= .pointer none∨p= .pointer (some ⟨b,0,none⟩))∧PgAt B b p l w:=by
  rcases h with h|h
  ·exact ⟨_,.inl rfl,h⟩
  ·exact ⟨_,.inr rfl,h⟩
 obtain ⟨hB,v,hbk,hown,hne⟩:=hAt
 have hl0:l.length≠0:=by simpa using h0
 rw [Lib.byteCells_length] at hown
 obtain ⟨g,cap,cur,fz,rfl,hbg,hg,hfz,hnc,hcm,hcs,htake⟩:∃g cap cur fz,v= .slice (some ⟨g,0,none⟩) l.length cap∧B≤g∧w.heap[g]? =some (.cells cur 5 fz)∧fz.2≤l.length*1∧l.length≤cap∧cap≤maxLen∧cur.size=cap*1∧cur.toList.take (l.length*1)=Lib.byteCells l:=by
  rcases hown.2 with ⟨_,hz⟩|⟨g,cap,cur,fz,hv,r⟩
  ·exact absurd hz hl0
  ·exact ⟨g,cap,cur,fz,hv,r⟩
 have c1:w.drew.cell? ⟨b,1,none⟩=some (.slice (some ⟨g,0,none⟩) l.length cap):=by
  have:w.drew.heap[b]? =some (.cells #[p,.slice (some ⟨g,0,none⟩) l.length cap] 286 (0,0)):=hbk
  rw [Lib.cell_of_heap this];rfl
 have hSD:(Builtin.unsafeSliceData_ #[185] 301 #[.slice (some ⟨g,0,none⟩) l.length cap]).run Tryz.prog w.drew= .ok (.pointer (some ⟨g,0,none⟩)) w.drew:=
  Lib.run_unsafeSliceData_row _ _ _ _ _ _ (by omega)
 have hUS:(Builtin.unsafeString_ #[301,3] 9 #[.pointer (some ⟨g,0,none⟩),.int .i64 l.length]).run Tryz.prog w.drew= .ok (.string ⟨l.toArray⟩) (w.drew.freeze ⟨g,0,none⟩ l.length):=by
  refine Lib.run_unsafeString_row w.drew 301 3 9 5 Tryz.underlying301 (by kernel_rfl) g cur.size (by have hg':w.drew.heap[g]? =some (.cells cur 5 fz):=hg;simp [World.shape?,hg']) l h0 (by omega) (by unfold maxLen at hcm;omega) ?_
  intro j x hx
  exact hown.cells (g:=g) rfl j (.int .u8 x.toNat) (by simp [Lib.byteCells,hx])
 have hkeep:Pg B b l (w.drew.freeze ⟨g,0,none⟩ l.length):=by
  have hA:PgAt B b p l w.drew:=⟨hB,_,hbk,by rw [Lib.byteCells_length];exact hown,hne⟩
  have hF:=hA.froze (g:=g) (cap:=cap) (by rw [Lib.byteCells_length];exact c1)
  rw [Lib.byteCells_length] at hF
  rcases hp with rfl|rfl
  ·exact .inl hF
  ·exact .inr hF
 go_enter Tryz.func175,Tryz.ntmps175
 go_wp2
 go_region
 all_goals (go_wp2;go_ret;exact ⟨rfl,hkeep,Lib.below_freeze (Below.drew (Below.refl B w)) (p:=⟨g,0,none⟩) hbg _⟩)
end Go.Proofs.YthkfhfldoniolaaGreatDoor
namespace Go.Proofs.YthkfhfldoniolaaGreatDoor
open Go.RowKit
def zcf (ws:List ByteArray):List UInt8:=Lib.join (ws.map (·.data.toList)) [32]
def Lined (B b:Nat) (l:List UInt8) (w:World) (e:Ending) (w':World):Prop:=e= .returned (.tuple #[])∧Pg B b l w'∧Below B w w'
theorem lined_of {B b:Nat} {l:List UInt8} {w w1 w':World} (h1:Below B w w1) (h:PgAt B b (.pointer (some ⟨b,0,none⟩)) l w'∧Below B w1 w'):Lined B b l w (.returned (.tuple #[])) w':=⟨rfl,.inr h.1,h1.trans h.2⟩
set_option maxRecDepth 100000 in
theorem line_any (B b k:Nat) (l:List UInt8) (ws:List ByteArray) (w:World) (h:Pg B b l w) (hB:B≤w.heap.size) (hc:∀(j:Nat) x,ws[j]? =some x→w.cell? ⟨k,0+j,none⟩=some (.string x)) (hk:k<w.heap.size) (hw:ws.length≤10) (hl:l.length≤50000) (hs:(zcf ws).length≤40000):
 Calls Tryz.prog 200 #[.pointer (some ⟨b,0,none⟩),.slice (some ⟨k,0,none⟩) ws.length ws.length] w (Lined B b (l++(zcf ws++[10])) w):=by
 have HJ:Hid (∀W,Below w.heap.size w W→Calls Tryz.prog 136 #[.slice (some ⟨k,0,none⟩) ws.length ws.length,.string ⟨#[32]⟩] W fun e w'=>e= .returned (.string ⟨(zcf ws).toArray⟩)∧Below W.heap.size W w'):=Lib.hid fun W hW=>
  Tryz.strings_Join k 0 ws.length ws ⟨#[32]⟩ W (fun j x hx=>(hW.cell (p:=⟨k,0+j,none⟩) hk).trans (hc j x hx)) (Nat.lt_of_lt_of_le hk hW.size) (by omega) (Nat.le_refl _) (by have:(Lib.join (ws.map (·.data.toList)) (⟨#[32]⟩:ByteArray).data.toList)=zcf ws:=rfl;rw [this];omega)
 have HP:Hid (∀W,Below w.heap.size w W→Calls Tryz.prog 174 #[.pointer (some ⟨b,0,none⟩),.string ⟨(zcf ws).toArray⟩] W fun e w'=>e= .returned (.tuple #[.int .i64 (zcf ws).length,.nilIface])∧PgAt B b (.pointer (some ⟨b,0,none⟩)) (l++zcf ws) w'∧Below B w w'):=Lib.hid fun W hW=>by
  have e1:(⟨(zcf ws).toArray⟩:ByteArray).size=(zcf ws).length:=by simp [ByteArray.size]
  refine (putString_any B b l ⟨(zcf ws).toArray⟩ W (h.below hW) (by omega) (by rw [e1];omega) (Nat.le_trans hB hW.size)).mono ?_
  rintro e w' ⟨rfl,h1,h2⟩
  exact ⟨by rw [e1],h1,(hW.mono hB).trans h2⟩
 have HQ:Hid (∀W,PgAt B b (.pointer (some ⟨b,0,none⟩)) (l++zcf ws) W→Below B w W→Calls Tryz.prog 247 #[.pointer (some ⟨b,0,none⟩),.int .u8 10] W fun e w'=>e= .returned .nilIface∧Lined B b (l++(zcf ws++[10])) w (.returned (.tuple #[])) w'):=Lib.hid fun W hP hW=>by
  refine (putByte_any B b (l++zcf ws) 10 W (.inr hP) (by rw [List.length_append];omega) (Nat.le_trans hB hW.size)).mono ?_
  rintro e w' ⟨rfl,h1⟩
  rw [List.append_assoc] at h1
  exact ⟨rfl,lined_of hW h1⟩
 generalize zcf ws=s at*
 clear h hc hs hl
 go_enter Tryz.func200,Tryz.ntmps200
 go_wp2_with fail
 go_region_with (first
  |(go_at_call 136;refine (HJ.out _ (zad (Below.refl _ _))).mono ?_;rintro e w1 ⟨rfl,hb1⟩)
  |(go_at_call 174;refine (HP.out _ (zaa (zad (Below.refl _ _)) hb1)).mono ?_;rintro e w2 ⟨rfl,hp2,hb2⟩))
 all_goals
  go_wp2_with (go_at_call 247;refine (HQ.out _ hp2 hb2).mono ?_;rintro e w3 ⟨rfl,h3⟩)
  go_end0
  exact h3
end Go.Proofs.YthkfhfldoniolaaGreatDoor
namespace Go.Proofs.YthkfhfldoniolaaGreatDoor
open Go.RowKit
theorem spaced3 (a b c:List UInt8):zcf [⟨a.toArray⟩,⟨b.toArray⟩,⟨c.toArray⟩]=a++32::(b++32::c):=by
 simp [zcf,Lib.join,List.intercalate]
theorem spaced2 (a b:List UInt8):zcf [⟨a.toArray⟩,⟨b.toArray⟩]=a++32::b:=by
 simp [zcf,Lib.join,List.intercalate]
def TxPost (ea:Nat→Addr) (ep:Int) (L:List Fl) (w:World) (e:Ending) (w':World):Prop:=
 match zbJ ep L with
 |some f=>∃t a,e= .returned (.tuple #[.string ⟨#[]⟩,.iface t (.pointer (some a))])∧zd9 ea w' f t a∧Below w.heap.size w w'
 |none=>e= .returned (.tuple #[.string ⟨(textOf ep L).toArray⟩,.nilIface])∧Below w.heap.size w w'
set_option maxRecDepth 100000 in
theorem text_bad (ea:Nat→Addr) (ep:Int) (A:Option Addr) (c B:Nat) (xs:List Fl) (f:Flt) (w:World) (hE:zcp ea w) (hr:Reads w B 3 A xs.length (zbr xs)) (hB:B≤w.heap.size) (hs:∀x∈xs,x.host.size≤maxLen) (hu:∀x∈xs,U64 x.key) (hf:zbJ ep xs=some f):
 Calls Tryz.prog 157 #[.int .i64 ep,.slice A xs.length c] w (TxPost ea ep xs w):=by
 have HC:=carCheck_any ea ep A c B xs w hE hr hB hs hu
 unfold TxPost
 rw [hf] at HC ⊢
 have HC':=Lib.hid HC
 unfold CkPost zfa at HC'
 clear HC hf hE hr hs hu
 go_enter Tryz.func157,Tryz.ntmps157
 go_wp2_with fail
 refine HC'.out.mono ?_
 rintro e w1 ⟨t,a,rfl,h1,h2⟩
 go_wp2
 go_ret2
 exact ⟨t,a,rfl,h1,h2⟩
theorem flat_succ {L:List Fl} {i:Nat} (h:i<L.length):((L.take (i+1)).map zan).flatMap (fun l=>l++[10])=((L.take i).map zan).flatMap (fun l=>l++[10])++(zan L[i]++[10]):=by
 rw [List.take_succ_eq_append_getElem h,List.map_append,List.flatMap_append]
 simp
theorem flat_len {L:List Fl} (h:∀x∈L,FlOk x) (hk:∀x∈L,x.key<18446744073709551616) (i:Nat):(((L.take i).map zan).flatMap fun l=>l++[10]).length≤45*L.length:=by
 have h1:=zfq (L:=L.take i) (fun x hx=>h x (List.mem_of_mem_take hx)) (fun x hx=>hk x (List.mem_of_mem_take hx))
 have:(L.take i).length≤L.length:=by rw [List.length_take];omega
 omega
theorem cells_three (w:World) (t:TypeId) (a b c:ByteArray):∀(j:Nat) x,[a,b,c][j]? =some x→(w.alloc (.cells #[.string a,.string b,.string c] t)).cell? ⟨w.heap.size,0+j,none⟩=some (.string x):=by
 intro j x hx
 rw [Nat.zero_add,World.cell?_alloc_new]
 match j,hx with
 |0,hx=>simp at hx;subst hx;rfl
 |1,hx=>simp at hx;subst hx;rfl
 |2,hx=>simp at hx;subst hx;rfl
theorem cells_two (w:World) (t:TypeId) (a b:ByteArray):∀(j:Nat) x,[a,b][j]? =some x→(w.alloc (.cells #[.string a,.string b] t)).cell? ⟨w.heap.size,0+j,none⟩=some (.string x):=by
 intro j x hx
 rw [Nat.zero_add,World.cell?_alloc_new]
 match j,hx with
 |0,hx=>simp at hx;subst hx;rfl
 |1,hx=>simp at hx;subst hx;rfl
set_option maxRecDepth 100000 in
theorem text_good (ea:Nat→Addr) (ep:Int) (A:Option Addr) (c B:Nat) (xs:List Fl) (w:World) (hW:zdz w) (hE:zcp ea w) (hr:Reads w B 3 A xs.length (zbr xs)) (hB:B≤w.heap.size) (hs:∀x∈xs,x.host.size≤maxLen) (hu:∀x∈xs,U64 x.key) (hf:zbJ ep xs=none):
 Calls Tryz.prog 157 #[.int .i64 ep,.slice A xs.length c] w (TxPost ea ep xs w):=by
 have HC:=carCheck_any ea ep A c B xs w hE hr hB hs hu
 have hk:=zdn hf
 have he0:=hk.e0
 have he1:=hk.e1
 have hn:=hk.n
 have HK:=Lib.hid hk.l
 have HU:=Lib.hid hu
 have HR:=Lib.hid hr
 have HW:=Lib.hid hW
 have hbl:=body_len hk hu
 unfold TxPost
 rw [hf] at HC ⊢
 have HC':=Lib.hid HC
 unfold CkPost at HC'
 clear HC hf hE hr hs hu hW hk
 go_enter Tryz.func157,Tryz.ntmps157
 go_wp2_with fail
 refine HC'.out.mono ?_
 rintro e w1 ⟨rfl,hb1⟩
 have HB1:=Lib.hid hb1
 have hP2:=Pg.made w1
 have hb2:=(Below.refl w1.heap.size w1).alloc (Nat.le_refl _) (.cells #[.pointer none,.slice none 0 0] 286)
 clear hb1 HC'
 go_wp2_with fail
 generalize hW2:w1.alloc (.cells #[.pointer none,.slice none 0 0] 286)=W2 at*
 clear hW2
 have hB2:=hb2.size
 have HWb:Hid (∀W,Below w1.heap.size w1 W→zdz W):=Lib.hid fun W hw=>HW.out.below (HB1.out.trans (hw.mono HB1.out.size))
 refine (zeH ep (by omega) (by omega) W2 (HWb.out _ hb2).num).mono ?_
 rintro e w3 ⟨rfl,hb3⟩
 have hb13:=hb2.trans (hb3.mono hb2.size)
 have hP3:=hP2.below hb3
 clear hb2 hb3 hP2
 go_wp2_with fail
 refine (zeH (xs.length:Int) (by omega) (by omega) w3 (HWb.out _ hb13).num).mono ?_
 rintro e w4 ⟨rfl,hb4⟩
 have hb14:=hb13.trans (hb4.mono hb13.size)
 have hP4:=hP3.below hb4
 clear hb13 hb4 hP3
 have hb15:=hb14.alloc hb14.size (.cells #[.string ⟨ze7.toArray⟩,.string ⟨(Lib.itoa ep).toArray⟩,.string ⟨(Lib.itoa (xs.length:Int)).toArray⟩] 9)
 have hl1:=zcA he0 (by omega)
 have hl2:=zcA (n:=(xs.length:Int)) (by omega) (by omega)
 have HL:=line_any w1.heap.size w1.heap.size w4.heap.size [] [⟨ze7.toArray⟩,⟨(Lib.itoa ep).toArray⟩,⟨(Lib.itoa (xs.length:Int)).toArray⟩] _ (hP4.below ((Below.refl _ _).alloc (Nat.le_refl _) _)) hb15.size (cells_three w4 9 _ _ _) (by simp) (by simp) (by simp) (by rw [spaced3];unfold ze7;simp only [List.length_append,List.length_cons,List.length_nil];omega)
 rw [spaced3] at HL
 have HL':=Lib.hid HL
 unfold Lined at HL'
 clear HL hP4 hb14 hl1 hl2
 go_wp2_with fail
 refine HL'.out.mono ?_
 rintro e w6 ⟨rfl,hP6,hb6⟩
 have HB6:=Lib.hid (hb15.trans (hb6.mono (Nat.le_refl _)))
 have HP6:Hid (Pg w1.heap.size w1.heap.size (zau ep xs.length++[10]++((xs.take 0).map zan).flatMap fun l=>l++[10]) w6):=Lib.hid (by simpa [zau] using hP6)
 clear HL' hP6 hb6 hb15
 go_wp2_with fail
 go_loopw [28] (fun iv wr=>∃i:Nat,i≤xs.length∧iv= .int .i64 (i:Int)∧Hid (Pg w1.heap.size w1.heap.size (zau ep xs.length++[10]++((xs.take i).map zan).flatMap fun l=>l++[10]) wr)∧Hid (Below w1.heap.size w1 wr)) (fun iv _=>xs.length+1- (intOf iv).toNat)
 case atStart=>exact ⟨0,Nat.zero_le _,rfl,HP6,HB6⟩
 case round=>
  obtain ⟨i,hi,rfl,hP,hb⟩:=hrel
  by_cases hil:i<xs.length
  ·have hil2:(i:Int)<xs.length:=by omega
   obtain ⟨ad,rfl,a0,a1,a2⟩:=cellsA (HR.out.keep fun p hp=>(HB1.out.trans (hb.out.mono HB1.out.size)).cell (by omega)) hil
   have hFl:=HK.out _ (List.getElem_mem hil)
   have hU:=HU.out _ (List.getElem_mem hil)
   have hfs:=flat_succ hil
   have hfl:=flat_len HK.out HU.out i
   generalize xs[i]=x at*
   have hxl:=flowLine_len hFl hU
   have ht0:=hFl.2.1
   have ht1:=hFl.2.2
   have hB1:=Blk.new wr 72 #[.int .u64 (x.key:Int),.string x.host,.int .i64 x.til]
   have hb7:=(Below.refl wr.heap.size wr).alloc (Nat.le_refl _) (.cells #[.int .u64 (x.key:Int),.string x.host,.int .i64 x.til] 72)
   have hlb:=hb.out.size
   have HX:Hid (∀W,Below wr.heap.size wr W→Calls Tryz.prog 201 #[.int .u64 (x.key:Int),.int .i64 16] W fun e w'=>e= .returned (.string ⟨(Hex.text x.key 16).toArray⟩)∧Below W.heap.size W w'):=Lib.hid fun W hw=>hex_any x.key 16 hU (Hex.zeY 15 _ hU) (by omega) W (HWb.out _ (hb.out.trans (hw.mono hlb))).hex
   have HI:Hid (∀W,Below wr.heap.size wr W→Calls Tryz.prog 85 #[.int .i64 x.til] W fun e w'=>e= .returned (.string ⟨(Lib.itoa x.til).toArray⟩)∧Below W.heap.size W w'):=Lib.hid fun W hw=>zeH x.til (by omega) (by omega) W (HWb.out _ (hb.out.trans (hw.mono hlb))).num
   have HL:Hid (∀W,Below wr.heap.size wr W→Calls Tryz.prog 200 #[.pointer (some ⟨w1.heap.size,0,none⟩),.slice (some ⟨W.heap.size,0,none⟩) 3 3] (W.alloc (.cells #[.string ⟨(Hex.text x.key 16).toArray⟩,.string x.host,.string ⟨(Lib.itoa x.til).toArray⟩] 9)) fun e w'=>e= .returned (.tuple #[])∧Hid (Pg w1.heap.size w1.heap.size (zau ep xs.length++[10]++((xs.take (i+1)).map zan).flatMap fun l=>l++[10]) w')∧Hid (Below w1.heap.size w1 w')):=Lib.hid fun W hw=>by
    have hw2:=hw.alloc hw.size (.cells #[.string ⟨(Hex.text x.key 16).toArray⟩,.string x.host,.string ⟨(Lib.itoa x.til).toArray⟩] 9)
    have e1:zcf [⟨(Hex.text x.key 16).toArray⟩,x.host,⟨(Lib.itoa x.til).toArray⟩]=zan x:=spaced3 _ x.host.data.toList _
    have hh:(zau ep xs.length).length≤33:=by
     have g1:=zcA he0 (by omega)
     have g2:=zcA (n:=(xs.length:Int)) (by omega) (by omega)
     unfold zau ze7
     simp only [List.length_append,List.length_cons,List.length_nil]
     omega
    have h:=line_any w1.heap.size w1.heap.size W.heap.size _ [⟨(Hex.text x.key 16).toArray⟩,x.host,⟨(Lib.itoa x.til).toArray⟩] _ (hP.out.below hw2) (Nat.le_trans hlb hw2.size) (cells_three W 9 _ _ _) (by simp) (by simp) (by simp only [List.length_append,List.length_singleton];omega) (by rw [e1];omega)
    rw [e1,List.append_assoc _ _ (zan x++[10]),←hfs] at h
    refine h.mono ?_
    rintro e w' ⟨h1,h2,h3⟩
    exact ⟨h1,Lib.hid h2,Lib.hid ((hb.out.trans (hw2.mono hlb)).trans h3)⟩
   clear hfs hfl hxl ht0 ht1 hFl hP
   go_wp2_with fail
   generalize wr.alloc (.cells #[.int .u64 (x.key:Int),.string x.host,.int .i64 x.til] 72)=W7 at*
   have hb7d:=zad hb7
   have hB7d:Blk W7.drew wr.heap.size 72 #[.int .u64 (x.key:Int),.string x.host,.int .i64 x.til]:=hB1
   have q0:W7.cell? ⟨wr.heap.size,0,none⟩=some (.int .u64 (x.key:Int)):=hB1.cell 0
   have q1:W7.cell? ⟨wr.heap.size,1,none⟩=some (.string x.host):=hB1.cell 1
   have q2:W7.cell? ⟨wr.heap.size,2,none⟩=some (.int .i64 x.til):=hB1.cell 2
   have t0:W7.drew.cell? ⟨wr.heap.size,0,none⟩=some (.int .u64 (x.key:Int)):=hB7d.cell 0
   have t1:W7.drew.cell? ⟨wr.heap.size,1,none⟩=some (.string x.host):=hB7d.cell 1
   have t2:W7.drew.cell? ⟨wr.heap.size,2,none⟩=some (.int .i64 x.til):=hB7d.cell 2
   clear a0 a1 a2
   go_region_with (first
    |(go_at_call 201
      refine (HX.out _ hb7d).mono ?_
      rintro e w8 ⟨rfl,hb8⟩
      have hB8:=hB7d.below hb8 hB7d.lt
      have hb78:=zaa hb7d hb8
      have u0:w8.cell? ⟨wr.heap.size,0,none⟩=some (.int .u64 (x.key:Int)):=hB8.cell 0
      have u1:w8.cell? ⟨wr.heap.size,1,none⟩=some (.string x.host):=hB8.cell 1
      have u2:w8.cell? ⟨wr.heap.size,2,none⟩=some (.int .i64 x.til):=hB8.cell 2)
    |(go_at_call 85
      refine (HI.out _ hb78).mono ?_
      rintro e w9 ⟨rfl,hb9⟩
      have hB9:=hB8.below hb9 hB8.lt
      have hb79:=zaa hb78 hb9
      have v1:w9.cell? ⟨wr.heap.size,1,none⟩=some (.string x.host):=hB9.cell 1)
    |(go_at_call 200
      refine (HL.out _ hb79).mono ?_
      rintro e w10 ⟨rfl,hP10,hb10⟩))
   all_goals
    go_wp2_with fail
    go_roundw
    case rel=>exact ⟨i+1,by omega,by go_num,hP10,hb10⟩
    case measure=>simp [intOf];omega
  ·obtain rfl:i=xs.length:=by omega
   have hge:¬(xs.length:Int)<xs.length:=by omega
   have hbd:zau ep xs.length++[10]++((xs.take xs.length).map zan).flatMap (fun l=>l++[10])=za4 ep xs:=by
    rw [List.take_length];simp [za4]
   rw [hbd] at hP
   have hbne:za4 ep xs≠[]:=by simp [za4]
   have hT:Hid (textOf ep xs=za4 ep xs++(za5 (Crc.sum (za4 ep xs))++[10])):=Lib.hid rfl
   have hbs:=Crc.sum_lt (za4 ep xs)
   have hGS:=fun W (h:Pg w1.heap.size w1.heap.size (za4 ep xs) W)=>zf1 w1.heap.size w1.heap.size (za4 ep xs) W h hbne
   have hSM:∀W,Calls Tryz.prog 202 #[.string ⟨(za4 ep xs).toArray⟩] W fun e w'=>e= .returned (.int .u64 (Crc.sum (za4 ep xs):Int))∧W=w':=fun W=>sum_any ⟨(za4 ep xs).toArray⟩ W (by unfold maxLen;simp only [ByteArray.size,List.size_toArray];omega)
   have HGS:=Lib.hid hGS
   have HSM:=Lib.hid hSM
   clear hGS hSM hbd
   generalize za4 ep xs=body at*
   have HWc:Hid (∀W,Below w1.heap.size w1 W→HexW W):=Lib.hid fun W hw=>(HWb.out _ hw).hex
   go_wp2_with fail
   refine (HGS.out _ hP.out).mono ?_
   rintro e w7 ⟨rfl,hP7,hb7⟩
   have hb17:=hb.out.trans hb7
   clear hP hb7
   go_wp2_with fail
   refine (HSM.out _).mono ?_
   rintro e w8 ⟨rfl,rfl⟩
   generalize Crc.sum body=n at*
   go_wp2_with fail
   refine (hex_any n 8 (by omega) (Hex.zeY 7 _ (by omega)) (by omega) w7 (HWc.out _ hb17)).mono ?_
   rintro e w9 ⟨rfl,hb9⟩
   have hP9:=hP7.below hb9
   have hb19:=hb17.trans (hb9.mono hb17.size)
   have hb20:=hb19.alloc hb19.size (.cells #[.string ⟨#[115,117,109]⟩,.string ⟨(Hex.text n 8).toArray⟩] 9)
   have hn8:=Hex.zeS n 8 (Hex.zeY 7 _ (by omega))
   have e1:zcf [⟨#[115,117,109]⟩,⟨(Hex.text n 8).toArray⟩]=za5 n:=spaced2 [115,117,109] _
   have hsl:=ze9 hbs
   have HL:=line_any w1.heap.size w1.heap.size w9.heap.size body [⟨#[115,117,109]⟩,⟨(Hex.text n 8).toArray⟩] _ (hP9.below ((Below.refl _ _).alloc (Nat.le_refl _) _)) hb20.size (cells_two w9 9 _ _) (by simp) (by simp) (by omega) (by rw [e1];omega)
   rw [e1] at HL
   have HL':=Lib.hid HL
   unfold Lined at HL'
   clear HL hP7 hP9 hb9 hb17 hb19 e1 HGS HSM
   go_wp2_with fail
   refine HL'.out.mono ?_
   rintro e w10 ⟨rfl,hP10,hb10⟩
   have HBf:=Lib.hid (hb20.trans hb10)
   rw [←hT.out] at hP10
   have hbne2:textOf ep xs≠[]:=by rw [hT.out];simp
   clear HL' hb10 hb20
   go_wp2_with fail
   refine (zf1 w1.heap.size w1.heap.size _ w10 hP10 hbne2).mono ?_
   rintro e w11 ⟨rfl,hP11,hb11⟩
   have HBg:=Lib.hid (HB1.out.trans ((HBf.out.trans hb11).mono HB1.out.size))
   clear hP11 hP10 hb11 HBf
   go_wp2
   go_ret2
   exact ⟨rfl,HBg.out⟩
theorem text_any (ea:Nat→Addr) (ep:Int) (A:Option Addr) (c B:Nat) (xs:List Fl) (w:World) (hW:zdz w) (hE:zcp ea w) (hr:Reads w B 3 A xs.length (zbr xs)) (hB:B≤w.heap.size) (hs:∀x∈xs,x.host.size≤maxLen) (hu:∀x∈xs,U64 x.key):
 Calls Tryz.prog 157 #[.int .i64 ep,.slice A xs.length c] w (TxPost ea ep xs w):=by
 cases hf:zbJ ep xs with
 |some f=>exact text_bad ea ep A c B xs f w hE hr hB hs hu hf
 |none=>exact text_good ea ep A c B xs w hW hE hr hB hs hu hf
end Go.Proofs.YthkfhfldoniolaaGreatDoor
