/-
  The law ScriptAgain: its walk.
-/
import Derived.Test.YthkfhfldoniolaaGreatDoorScrLineW
import Derived.Test.YthkfhfldoniolaaGreatDoorScrLine
namespace Go.Proofs.YthkfhfldoniolaaGreatDoor
open Go.RowKit
def zeA (l:List zcT):List ByteArray:=l.filterMap fun x=>zcW x.word x.h x.n
theorem linesT_len (l:List zcT):(zeA l).length≤l.length:=List.length_filterMap_le _ _
theorem linesT_some {l:List zcT} {i:Nat} {s:ByteArray} (h:i<l.length) (hs:zcW l[i].word l[i].h l[i].n=some s):zeA (l.take (i+1))=zeA (l.take i)++[s]:=by
 rw [List.take_succ_eq_append_getElem h]
 unfold zeA
 rw [List.filterMap_append]
 simp [hs]
theorem linesT_none {l:List zcT} {i:Nat} (h:i<l.length) (hs:zcW l[i].word l[i].h l[i].n=none):zeA (l.take (i+1))=zeA (l.take i):=by
 rw [List.take_succ_eq_append_getElem h]
 unfold zeA
 rw [List.filterMap_append]
 simp [hs]
def longS (x:zcT):Bool:=decide (5<x.n.length)||decide (60<x.word.size)||zeW x.h
theorem longH_len {l:List ByteArray} (h:zeW l=false):l.length≤30:=(long_no h).1
theorem linesT_small {l:List zcT} (h:∀x∈l,longS x=false):∀s∈zeA l,s.size≤100000:=by
 intro s hs
 obtain ⟨x,hx,he⟩:=List.mem_filterMap.1 hs
 have h1:=h x hx
 unfold longS at h1
 simp only [Bool.or_eq_false_iff,decide_eq_false_iff_not] at h1
 exact lineT_small he (by omega) (longH_len h1.2) (by omega)
theorem long_ways (x:zcT):
 (longS x=true∧(decide ((x.n.length:Int)>5)=true∨(decide ((x.n.length:Int)>5)=false∧decide ((x.word.size:Int)>60)=true)∨(decide ((x.n.length:Int)>5)=false∧decide ((x.word.size:Int)>60)=false∧zeW x.h=true)))∨
 (longS x=false∧decide ((x.n.length:Int)>5)=false∧decide ((x.word.size:Int)>60)=false∧zeW x.h=false):=by
 unfold longS
 by_cases h1:5<x.n.length
 ·exact .inl ⟨by simp [h1],.inl (by simp;omega)⟩
 by_cases h2:60<x.word.size
 ·exact .inl ⟨by simp [h2],.inr (.inl ⟨by simp;omega,by simp;omega⟩)⟩
 cases h3:zeW x.h with
 |true=>exact .inl ⟨by simp,.inr (.inr ⟨by simp;omega,by simp;omega,rfl⟩)⟩
 |false=>exact .inr ⟨by simp;omega,by simp;omega,by simp;omega,rfl⟩
def RunGives (L:List ByteArray) (W:World) (e:Ending) (w':World):Prop:=
 ∃A' c',e= .returned (.tuple #[.slice A' L.length c',.nilIface])∧Reads w' w'.heap.size 1 A' L.length (zak (zcH L).1)∧(A'=none∧L.length=0∧c'=0∨∃g,A'=some ⟨g,0,none⟩)∧L.length≤c'∧Below W.heap.size W w'
theorem run_gives {ea:Nat→Addr} {A:Option Addr} {cap:Nat} {L:List ByteArray} (w:World) (hE:ErrsS ea w) (hW:zdz w) (hG:zbK w) (hT:zcr w A cap L) (hl:L.length≤100) (hz:∀y∈L,y.size≤100000):
 Calls Tryz.prog 10 #[.slice A L.length cap] w (RunGives L w):=
 (run_any w hE hW hG hT hl hz).mono fun e w' ⟨A',c',a,b,d⟩=>by
   have hcap:=row_cap b
   refine ⟨A',c',a,Reads.zbv b, ?_,hcap,d⟩
   rcases own_two b with ⟨h1,h2,h3⟩|h1
   ·exact .inl ⟨h1,h2,h3⟩
   ·exact .inr h1
end Go.Proofs.YthkfhfldoniolaaGreatDoor
