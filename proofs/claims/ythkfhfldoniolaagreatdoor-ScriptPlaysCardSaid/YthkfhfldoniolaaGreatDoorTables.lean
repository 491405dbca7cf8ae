/-
  Tables by plain lists: sizes that nothing divides, rows, turn by turn. A row of a table: rowOf, next. table.Make's memory: a map from hosts to rows, the rows, the slots. table.size, and the reference's SizeError. slices.Repeat of one number; math/bits.Mul of 1 and a small number. table.Make where hosts and size are right. table.Make where it is refused, and whatever it is given; table.Row; the closed fact tabled. The closed fact tabled; table.Counts. table.Counts, whatever it is given. The law TableEven in plain words: what stands at a slot, how often each host, the turned list, each slot once in a row.
-/
import Derived.Test.YthkfhfldoniolaaGreatDoorMixes
import Derived.Test.YthkfhfldoniolaaGreatDoorTexts
import Derived.Deep.RegionHeld3
import Derived.Test.YthkfhfldoniolaaGreatDoorLists
import Derived.Maps.Own
import Derived.Maps.OwnOps
import Derived.Maps.Views
import Derived.Test.YthkfhfldoniolaaGreatDoorCodeA
import Derived.Laws.CopyOwn
import Derived.Deep.RegionLaw
import Derived.Test.YthkfhfldoniolaaGreatDoorSorted
import Derived.Deep.LoopGhost
import Derived.Deep.CutBlock
import Derived.Deep.DeepCutAuto
import Derived.Test.YthkfhfldoniolaaGreatDoorBaseA
import Derived.Test.YthkfhfldoniolaaGreatDoorRefFault
set_option maxHeartbeats 8000000
namespace Go.Proofs.YthkfhfldoniolaaGreatDoor
theorem nodup_le {α:Type} [DecidableEq α]:∀{o l:List α},o.Nodup→(∀x∈o,x∈l)→o.length≤l.length
 |[],_,_,_=>Nat.zero_le _
 |a::o,l,hn,hs=>by
   have ha:=hs a (List.mem_cons_self)
   obtain ⟨h1,h2⟩:=List.nodup_cons.1 hn
   have h3:=nodup_le (l:=l.erase a) h2 fun x hx=>(List.mem_erase_of_ne (fun e=>h1 (by rw [←e];exact hx))).2 (hs x (List.mem_cons_of_mem _ hx))
   rw [List.length_erase_of_mem ha] at h3
   have h4:=List.length_pos_of_mem ha
   simp only [List.length_cons];omega
def zdV (n:Nat):Prop:=∀k,2≤k→k<n→n%k≠0
instance (n:Nat):Decidable (zdV n):=decidable_of_iff (∀k,k<n→2≤k→n%k≠0) ⟨fun h k h1 h2=>h k h2 h1,fun h k h1 h2=>h k h2 h1⟩
theorem noDiv_of_small {n k:Nat} (h:∀j,2≤j→j<k→n%j≠0) (hk:n<k*k):zdV n:=by
 intro d h2 hd he
 obtain ⟨e,rfl⟩:=Nat.dvd_of_mod_eq_zero he
 have he2:2≤e:=by
  rcases Nat.lt_or_ge e 2 with h1|h1
  ·have:d*e≤d*1:=Nat.mul_le_mul_left d (by omega)
   omega
  ·exact h1
 rcases Nat.lt_or_ge d k with h1|h1
 ·exact h d h2 h1 (Nat.mul_mod_right d e)
 ·rcases Nat.lt_or_ge e k with h3|h3
  ·exact h e he2 h3 (Nat.mul_mod_left d e)
  ·have:=Nat.mul_le_mul h1 h3
   omega
def zcK (s:ByteArray) (n:Nat):Nat:=1+ofN s 2%(n-1)
def rowAt (s:ByteArray) (n i:Nat):Nat:=(ofN s 1%n+i*zcK s n)%n
theorem zfF (s:ByteArray) {n:Nat} (i:Nat) (hn:2≤n):rowAt s n i<n:=Nat.mod_lt _ (by omega)
theorem rowAt_zero (s:ByteArray) (n:Nat):rowAt s n 0=ofN s 1%n:=by
 unfold rowAt;rw [Nat.zero_mul,Nat.add_zero,Nat.mod_mod]
theorem rowAt_succ (s:ByteArray) (n i:Nat):rowAt s n (i+1)=(rowAt s n i+zcK s n)%n:=by
 unfold rowAt
 rw [Nat.succ_mul,←Nat.add_assoc]
 exact (Nat.mod_add_mod _ _ _).symm
theorem skipOf_lt (s:ByteArray) {n:Nat} (hn:2≤n):1≤zcK s n∧zcK s n<n:=by
 unfold zcK
 have:=Nat.mod_lt (ofN s 2) (show 0<n-1 by omega)
 omega
theorem coprime_skip {n k:Nat} (hn:zdV n) (h1:1≤k) (h2:k<n):Nat.Coprime n k:=by
 have hd1:=Nat.gcd_dvd_left n k
 have hd2:=Nat.gcd_dvd_right n k
 have hle:=Nat.le_of_dvd (by omega) hd2
 have hpos:0<Nat.gcd n k:=Nat.gcd_pos_of_pos_right n (by omega)
 refine Classical.byContradiction fun hne=> ?_
 exact hn (Nat.gcd n k) (by unfold Nat.Coprime at hne;omega) (by omega) (Nat.mod_eq_zero_of_dvd hd1)
theorem rowAt_inj (s:ByteArray) {n i j:Nat} (hn:2≤n) (hd:zdV n) (hij:i<j) (hj:j<n):rowAt s n i≠rowAt s n j:=by
 intro he
 unfold rowAt at he
 obtain ⟨h1,h2⟩:=skipOf_lt s hn
 have hc:=coprime_skip hd h1 h2
 obtain ⟨d,rfl⟩:∃d,j=i+d:=⟨j-i,by omega⟩
 have hdvd:n∣d*zcK s n:=by
  have h3:(ofN s 1%n+(i+d)*zcK s n)=(ofN s 1%n+i*zcK s n)+d*zcK s n:=by rw [Nat.add_mul];omega
  rw [h3] at he
  generalize ofN s 1%n+i*zcK s n=a at he
  generalize d*zcK s n=b at he ⊢
  have h4:=Nat.div_add_mod a n
  have h5:=Nat.div_add_mod (a+b) n
  refine ⟨(a+b)/n-a/n, ?_⟩
  rw [Nat.mul_sub]
  omega
 have:=Nat.le_of_dvd (by omega) (hc.dvd_of_dvd_mul_right hdvd)
 omega
theorem rowAt_onto (s:ByteArray) {n p:Nat} (hn:2≤n) (hd:zdV n) (hp:p<n):∃i,i<n∧rowAt s n i=p:=by
 refine Classical.byContradiction fun hno=> ?_
 have hnd:(p::(List.range n).map (rowAt s n)).Nodup:=by
  rw [List.nodup_cons]
  refine ⟨fun h=> ?_, ?_⟩
  ·obtain ⟨i,hi,he⟩:=List.mem_map.1 h
   exact hno ⟨i,List.mem_range.1 hi,he⟩
  ·rw [List.Nodup,List.pairwise_map]
   refine List.Pairwise.imp_of_mem ?_ List.pairwise_lt_range
   intro a b ha hb hab
   exact rowAt_inj s hn hd hab (List.mem_range.1 hb)
 have:=nodup_le (l:=List.range n) hnd fun x hx=>by
  rcases List.mem_cons.1 hx with rfl|hx
  ·exact List.mem_range.2 hp
  ·obtain ⟨i,_,rfl⟩:=List.mem_map.1 hx
   exact List.mem_range.2 (zfF s i hn)
 simp at this
 omega
def firstFree (s:ByteArray) (n:Nat) (out:List Int):Nat:=((List.range n).find? fun i=>decide (out.getD (rowAt s n i) 0<0)).getD n
theorem firstFree_at {s:ByteArray} {n i:Nat} {out:List Int} (hi:i<n) (h1:∀j,j<i→¬out.getD (rowAt s n j) 0<0) (h2:out.getD (rowAt s n i) 0<0):firstFree s n out=i:=by
 have:(List.range n).find? (fun i=>decide (out.getD (rowAt s n i) 0<0))=some i:=by
  rw [List.find?_eq_some_iff_getElem]
  exact ⟨by simpa using h2,i,by simpa using hi,by simp,fun j hj=>by simpa using h1 j hj⟩
 unfold firstFree;rw [this];rfl
def tab (names:List ByteArray) (n:Nat):Nat→List Int
 |0=>List.replicate n (-1)
 |t+1=>(tab names n t).set (rowAt (names.getD (t%names.length) ByteArray.empty) n (firstFree (names.getD (t%names.length) ByteArray.empty) n (tab names n t))) ((t%names.length:Nat):Int)
theorem zeK (names:List ByteArray) (n:Nat):∀t,(tab names n t).length=n
 |0=>by simp [tab]
 |t+1=>by rw [tab,List.length_set,zeK names n t]
theorem zfG:∀(l:List Int) (k:Nat) (v:Int) (hk:k<l.length),l[k]<0→0≤v→(l.set k v).countP (fun x=>decide (x<0))+1=l.countP fun x=>decide (x<0)
 |[],k,_,hk,_,_=>absurd hk (by simp)
 |x::l,0,v,_,h,hv=>by
   have h':x<0:=h
   have hv':¬v<0:=by omega
   simp [h',hv']
 |x::l,k+1,v,hk,h,hv=>by
   have ih:=zfG l k v (by simpa using hk) (by simpa using h) hv
   simp only [List.set_cons_succ,List.countP_cons]
   omega
theorem zfu (c:Nat):∀(l:List Int) (k:Nat) (v:Nat) (hk:k<l.length),l[k]<0→(l.set k (v:Int)).count (c:Int)=l.count (c:Int)+if v=c then 1 else 0
 |[],k,_,hk,_=>absurd hk (by simp)
 |x::l,0,v,_,h=>by
   have h':x<0:=h
   have h1:¬x=(c:Int):=by omega
   simp only [List.set_cons_zero,List.count_cons]
   have h2:(x==(c:Int))=false:=by simpa using h1
   have h3:((v:Int)==(c:Int))=decide (v=c):=by
    rw [Bool.eq_iff_iff];simp;omega
   rw [h2,h3]
   by_cases hvc:v=c<;>simp [hvc]
 |x::l,k+1,v,hk,h=>by
   have ih:=zfu c l k v (by simpa using hk) (by simpa using h)
   simp only [List.set_cons_succ,List.count_cons]
   omega
structure TabOK (m n t:Nat) (out:List Int):Prop where
 len:out.length=n
 free:out.countP (fun x=>decide (x<0))=n-t
 lt:∀x∈out,x= -1∨0≤x∧x<m
 cnt:∀k,k<m→out.count (k:Int)=t/m+if k<t%m then 1 else 0
theorem div_mod_next (t:Nat) {m:Nat} (hm:0<m):((t+1)/m=t/m∧(t+1)%m=t%m+1)∨(t%m+1=m∧(t+1)/m=t/m+1∧(t+1)%m=0):=by
 have h1:=Nat.div_add_mod t m
 have h2:=Nat.mod_lt t hm
 generalize t/m=q at*
 generalize t%m=r at*
 subst h1
 rw [show m*q+r+1=m*q+(r+1) by omega,Nat.mul_add_div hm,Nat.mul_add_mod]
 rcases Nat.lt_or_ge (r+1) m with h|h
 ·left
  rw [Nat.div_eq_of_lt h,Nat.mod_eq_of_lt h];exact ⟨rfl,rfl⟩
 ·right
  have e:r+1=m:=by omega
  rw [e,Nat.div_self hm,Nat.mod_self];exact ⟨rfl,rfl,rfl⟩
theorem free_exists {out:List Int} (h:0<out.countP fun x=>decide (x<0)):∃p,∃hp:p<out.length,out[p]<0:=by
 rw [List.countP_pos_iff] at h
 obtain ⟨x,hx,hx2⟩:=h
 obtain ⟨p,hp,rfl⟩:=List.getElem_of_mem hx
 exact ⟨p,hp,by simpa using hx2⟩
theorem zdw {s:ByteArray} {n:Nat} {out:List Int} (hn:2≤n) (hd:zdV n) (hl:out.length=n) (h:0<out.countP fun x=>decide (x<0)):
 firstFree s n out<n∧out.getD (rowAt s n (firstFree s n out)) 0<0∧∀j,j<firstFree s n out→¬out.getD (rowAt s n j) 0<0:=by
 obtain ⟨p,hp,hneg⟩:=free_exists h
 obtain ⟨i,hi,hr⟩:=rowAt_onto s hn hd (by omega:p<n)
 cases hf:(List.range n).find? (fun i=>decide (out.getD (rowAt s n i) 0<0)) with
 |none=>
  rw [List.find?_eq_none] at hf
  have:=hf i (List.mem_range.2 hi)
  rw [hr] at this
  simp [List.getD_eq_getElem?_getD,List.getElem?_eq_getElem hp] at this
  omega
 |some j=>
  have hff:firstFree s n out=j:=by unfold firstFree;rw [hf];rfl
  rw [hff]
  rw [List.find?_eq_some_iff_getElem] at hf
  obtain ⟨h1,q,hq,he,h2⟩:=hf
  rw [List.getElem_range] at he
  subst he
  rw [List.length_range] at hq
  exact ⟨hq,by simpa using h1,fun j hj=>by simpa using h2 j hj⟩
theorem tab_ok (names:List ByteArray) {n:Nat} (hm:0<names.length) (hn:2≤n) (hd:zdV n):∀t,t≤n→TabOK names.length n t (tab names n t)
 |0,_=>by
   refine ⟨by simp [tab],by simp [tab,List.countP_replicate],fun x hx=> ?_,fun k hk=> ?_⟩
   ·rw [tab,List.mem_replicate] at hx;exact .inl hx.2
   ·rw [tab,Nat.zero_div,Nat.zero_mod,List.count_replicate]
    have:¬((-1:Int)==(k:Int))=true:=by simp
    rw [if_neg this,if_neg (by omega:¬k<0)]
 |t+1,ht=>by
   have ih:=tab_ok names hm hn hd t (by omega)
   have hmod:=Nat.mod_lt t hm
   generalize hs:names.getD (t%names.length) ByteArray.empty=s
   have hsp:=zdw (s:=s) hn hd ih.len (by rw [ih.free];omega)
   have hlt:=zfF s (firstFree s n (tab names n t)) hn
   rw [tab,hs]
   generalize rowAt s n (firstFree s n (tab names n t))=p at*
   have hp:p<(tab names n t).length:=by rw [ih.len];exact hlt
   have hneg:(tab names n t)[p]<0:=by
    have:=hsp.2.1
    rwa [List.getD_eq_getElem?_getD,List.getElem?_eq_getElem hp] at this
   refine ⟨by rw [List.length_set];exact ih.len, ?_,fun x hx=> ?_,fun k hk=> ?_⟩
   ·have:=zfG (tab names n t) p ((t%names.length:Nat):Int) hp hneg (by omega)
    have h2:=ih.free
    omega
   ·rcases List.mem_or_eq_of_mem_set hx with h|h
    ·exact ih.lt x h
    ·right;omega
   ·rw [zfu k _ p _ hp hneg,ih.cnt k hk]
    rcases div_mod_next t hm with ⟨h1,h2⟩|⟨h0,h1,h2⟩
    ·rw [h1,h2]
     by_cases hk2:t%names.length=k
     ·rw [if_pos hk2,if_neg (by omega),if_pos (by omega)]
     ·rw [if_neg hk2]
      by_cases hk3:k<t%names.length
      ·rw [if_pos hk3,if_pos (by omega)]
      ·rw [if_neg hk3,if_neg (by omega)]
    ·rw [h1,h2,if_neg (by omega:¬k<0)]
     by_cases hk2:t%names.length=k
     ·rw [if_pos hk2,if_neg (by omega)]
     ·rw [if_neg hk2,if_pos (by omega)]
def table (names:List ByteArray) (n:Nat):List Int:=tab names n n
theorem table_full {names:List ByteArray} {n:Nat} (hm:0<names.length) (hn:2≤n) (hd:zdV n):∀x∈table names n,0≤x∧x<names.length:=by
 have h:=tab_ok names hm hn hd n (Nat.le_refl n)
 intro x hx
 rcases h.lt x hx with rfl|h1
 ·have:=(List.countP_pos_iff (p:=fun x:Int=>decide (x<0))).2 ⟨-1,hx,by decide⟩
  unfold table at this
  rw [h.free] at this
  omega
 ·exact h1
end Go.Proofs.YthkfhfldoniolaaGreatDoor
namespace Go.Proofs.YthkfhfldoniolaaGreatDoor
open Go.RowKit
def RowOfPost (s:ByteArray) (n:Nat) (w:World) (e:Ending) (w':World):Prop:=e= .returned (.agg #[.int .i64 (rowAt s n 0:Int),.int .i64 (zcK s n:Int)])∧Below w.heap.size w w'
set_option maxRecDepth 100000 in
theorem rowOf_any (s:ByteArray) (n:Nat) (w:World) (hs:s.size≤maxLen) (hn:2≤n) (hn5:n≤503):Calls Tryz.prog 121 #[.string s,.int .i64 (n:Int)] w (RowOfPost s n w):=by
 have H1:Hid (∀W,Calls Tryz.prog 138 #[.string s,.int .u64 1] W (zcD (ofN s 1) W)):=Lib.hid fun W=>of_any s 1 W hs (by unfold U64;omega)
 have H2:Hid (∀W,Calls Tryz.prog 138 #[.string s,.int .u64 2] W (zcD (ofN s 2) W)):=Lib.hid fun W=>of_any s 2 W hs (by unfold U64;omega)
 unfold zcD at H1 H2
 have e0:rowAt s n 0=ofN s 1%n:=rowAt_zero s n
 have l1:=Nat.mod_lt (ofN s 1) (show 0<n by omega)
 have l2:=Nat.mod_lt (ofN s 2) (show 0<n-1 by omega)
 unfold RowOfPost zcK
 rw [e0]
 generalize ofN s 1=x at*
 generalize ofN s 2=y at*
 have q0:IntKind.u64.wrap (n:Int)=(n:Int):=IntWalk.u64_in _ (by omega)
 have q1:¬(n:Int)=0:=by omega
 have q2:IntKind.u64.wrap ((n:Int) -1)=((n-1:Nat):Int):=by rw [IntWalk.u64_in _ (by omega)];omega
 have q3:¬((n-1:Nat):Int)=0:=by omega
 have q4:IntKind.u64.wrap ((x:Int).tmod (n:Int))=((x%n:Nat):Int):=by
  rw [Int.tmod_eq_emod_of_nonneg (by omega)]
  exact IntWalk.u64_in _ (by have:(x:Int)%(n:Int)=((x%n:Nat):Int):=rfl;omega)
 have q5:IntKind.u64.wrap ((y:Int).tmod ((n-1:Nat):Int))=((y%(n-1):Nat):Int):=by
  rw [Int.tmod_eq_emod_of_nonneg (by omega)]
  exact IntWalk.u64_in _ (by have:(y:Int)%((n-1:Nat):Int)=((y%(n-1):Nat):Int):=rfl;omega)
 have q6:IntKind.i64.wrap ((x%n:Nat):Int)=((x%n:Nat):Int):=IntWalk.i64_in _ (by omega)
 have q7:IntKind.i64.wrap ((y%(n-1):Nat):Int)=((y%(n-1):Nat):Int):=IntWalk.i64_in _ (by omega)
 have q8:IntKind.i64.wrap (1+((y%(n-1):Nat):Int))=((1+y%(n-1):Nat):Int):=by rw [IntWalk.i64_in _ (by omega)];omega
 have q4b:IntKind.u64.wrap ((x:Int)%(n:Int))=((x%n:Nat):Int):=IntWalk.u64_in _ (by have:(x:Int)%(n:Int)=((x%n:Nat):Int):=rfl;omega)
 have q5b:IntKind.u64.wrap ((y:Int)%((n-1:Nat):Int))=((y%(n-1):Nat):Int):=IntWalk.u64_in _ (by have:(y:Int)%((n-1:Nat):Int)=((y%(n-1):Nat):Int):=rfl;omega)
 have q4c:IntKind.i64.wrap ((x:Int).tmod (n:Int))=((x%n:Nat):Int):=by
  rw [Int.tmod_eq_emod_of_nonneg (by omega)]
  exact IntWalk.i64_in _ (by have:(x:Int)%(n:Int)=((x%n:Nat):Int):=rfl;omega)
 have q5c:IntKind.i64.wrap ((y:Int).tmod ((n-1:Nat):Int))=((y%(n-1):Nat):Int):=by
  rw [Int.tmod_eq_emod_of_nonneg (by omega)]
  exact IntWalk.i64_in _ (by have:(y:Int)%((n-1:Nat):Int)=((y%(n-1):Nat):Int):=rfl;omega)
 have q1b:¬n=0:=by omega
 have q3b:¬n-1=0:=by omega
 generalize x%n=xm at*
 generalize y%(n-1)=ym at*
 generalize n-1=n1 at*
 clear e0 hs
 go_enter Tryz.func121,Tryz.ntmps121
 go_wp2_with fail
 go_region_held3 (fun w'=>True) (trivial)
  (first
    |(go_at_call 138;(with_reducible refine (H1.out _).mono ?_);rintro e w5 ⟨rfl,rfl⟩)
    |(go_at_call 138;(with_reducible refine (H2.out _).mono ?_);rintro e w5 ⟨rfl,rfl⟩))
 go_wp2
 refine bodyPost_ret (v:= .agg #[.int .i64 (xm:Int),.int .i64 ((1+ym:Nat):Int)]) (by simp [results,Tryz.results121,go_sem]) rfl ⟨rfl, ?_⟩
 exact below_drewN ((Below.refl _ _).alloc (Nat.le_refl _) _) 1
def NextPost (g a s n:Nat) (w:World) (e:Ending) (w':World):Prop:=e= .returned (.int .i64 (a:Int))∧w'=(w.setCell ⟨g,0,none⟩ (.int .i64 (((a+s)%n:Nat):Int))).drew
set_option maxRecDepth 100000 in
theorem next_row (g a s n:Nat) (w:World) (ha:a<503) (hs:s≤503) (hn:2≤n) (hn5:n≤503) (h0:w.cell? ⟨g,0,none⟩=some (.int .i64 (a:Int))) (h1:w.cell? ⟨g,1,none⟩=some (.int .i64 (s:Int))) (hf:w.frozen? ⟨g,0,none⟩=false):
 Calls Tryz.prog 123 #[.pointer (some ⟨g,0,none⟩),.int .i64 (n:Int)] w (NextPost g a s n w):=by
 have q1:IntKind.i64.wrap ((a:Int)+(s:Int))=(a:Int)+(s:Int):=IntWalk.i64_in _ (by omega)
 have q2:¬(n:Int)=0:=by omega
 have q3:IntKind.i64.wrap (((a:Int)+(s:Int)).tmod (n:Int))=(((a+s)%n:Nat):Int):=by
  rw [Int.tmod_eq_emod_of_nonneg (by omega)]
  have e:((a:Int)+(s:Int))%(n:Int)=(((a+s)%n:Nat):Int):=rfl
  rw [e]
  have:=Nat.mod_lt (a+s) (show 0<n by omega)
  exact IntWalk.i64_in _ (by omega)
 unfold NextPost
 go_enter Tryz.func123,Tryz.ntmps123
 go_wp2
 go_region
 go_wp2
 go_ret
 exact ⟨rfl,rfl⟩
end Go.Proofs.YthkfhfldoniolaaGreatDoor
namespace Go.Proofs.YthkfhfldoniolaaGreatDoor
open Go.RowKit Go.Maps Go.WideMaps
theorem zero_row (w:World):(zeroValue 193).run Tryz.prog w= .ok (.pointer none) w:=by
 have h:Tryz.t193.zero=some (.pointer none):=by kernel_rfl
 simp [zeroValue,h]
def rPtr:Value→Option (DataW Unit×List MemPlace)
 | .pointer none=>some (.nil,[])
 | .pointer (some ⟨g,0,none⟩)=>some (.lit (.int .i64 (g:Int)),[])
 |_=>none
theorem rPtr_inv {v:Value} {g:Nat} {ps:List MemPlace} (h:rPtr v=some (.lit (.int .i64 (g:Int)),ps)):v= .pointer (some ⟨g,0,none⟩):=by
 unfold rPtr at h
 split at h
 ·injection h with h;injection h with h _;cases h
 ·rename_i g'
  injection h with h
  injection h with h _
  injection h with h
  injection h with _ h
  obtain rfl:g'=g:=by omega
  rfl
 ·cases h
def zcS (b n:Nat) (f:ByteArray→Option Nat) (w:World):Prop:=∃D:DataW Unit,w.ownsMap Tryz.prog 9 rPtr b n D∧∀(s:ByteArray) (g:Nat),s.size≤maxLen→f s=some g→D.atKey (.string s.data.toList) .nil= .lit (.int .i64 (g:Int))
theorem zcS.made (w:World):zcS w.heap.size 0 (fun _=>none) (w.alloc (.map #[] 0)):=⟨_,World.ownsMap_made w _ _ _,fun s g _ h=>by cases h⟩
theorem zcS.kept {b n:Nat} {f:ByteArray→Option Nat} {w w':World} {row:Option Nat} (h:zcS b n f w) (hg:w.grownBy w' row) (hne:some b≠row):zcS b n f w':=by
 obtain ⟨D,ho,hD⟩:=h
 exact ⟨D,ho.kept hg hne,hD⟩
theorem zcS.below {b n:Nat} {f:ByteArray→Option Nat} {w w':World} (h:zcS b n f w) (hb:Below w.heap.size w w'):zcS b n f w':=by
 obtain ⟨D,ho,hD⟩:=h
 have hlt:=ho.lt
 obtain ⟨es,ck,hh,r⟩:=ho
 exact ⟨D,⟨es,ck,(hb.block b hlt).trans hh,r⟩,hD⟩
theorem zcS.drew {b n:Nat} {f:ByteArray→Option Nat} {w:World} (h:zcS b n f w):zcS b n f w.drew:=h
theorem zcS.look {b n g:Nat} {f:ByteArray→Option Nat} {w:World} {s:ByteArray} (h:zcS b n f w) (hs:s.size≤maxLen) (hf:f s=some g):(Instr.lookup 189 (.map (some b)) (.string s) false).run Tryz.prog w= .ok (.pointer (some ⟨g,0,none⟩)) w:=by
 obtain ⟨D,ho,hD⟩:=h
 obtain ⟨v,ps,hrun,hv⟩:=ho.lookup (string_keyed Tryz.underlying9) Tryz.underlying189 (zero_row w) (zd:= .nil) (zp:=[]) rfl (keyOf_string_mk Tryz.underlying9 hs)
 rw [hD s g hs hf] at hv
 obtain rfl:=rPtr_inv hv
 exact hrun
theorem zcS.put {b n g:Nat} {f:ByteArray→Option Nat} {w:World} {s:ByteArray} (h:zcS b n f w) (hs:s.size≤maxLen) (hn:n<maxLen):
 ∃w',(Instr.mapUpdate 189 (.map (some b)) (.string s) (.pointer (some ⟨g,0,none⟩))).run Tryz.prog w= .ok () w'∧zcS b (n+1) (fun x=>if x=s then some g else f x) w'∧w.grownBy w' (some b):=by
 obtain ⟨D,ho,hD⟩:=h
 obtain ⟨w',hrun,ho',hg⟩:=ho.update (string_keyed Tryz.underlying9) Tryz.underlying189 hn (keyOf_string_mk Tryz.underlying9 hs) (show rPtr (.pointer (some ⟨g,0,none⟩))=some (.lit (.int .i64 (g:Int)),[]) from rfl)
 refine ⟨w',hrun,⟨_,ho',fun j g' hj hf=> ?_⟩,hg⟩
 by_cases hjk:j=s
 ·subst hjk
  simp only [if_pos] at hf
  obtain rfl:=Option.some.inj hf
  rw [atKey_put_same (k:= .string j.data.toList) ho.isMap trivial]
 ·have hne:¬j.data.toList=s.data.toList:=fun e=>hjk (ba_ext e)
  simp only [if_neg hjk] at hf
  rw [atKey_put_other (k:= .string s.data.toList) (k':= .string j.data.toList) (by intro e;injection e with e;exact hne e),hD j g' hj hf]
section
variable {w:World} {ops:Array Oper} {rest:List Oper} {o:Oper} {a:Act} {Q:Exit→Act→World→Prop} {b n:Nat}
theorem wp_ptr_look {f:ByteArray→Option Nat} (hg:o.guard=none) (m x:Operand) (hop:o.op=Op.lookup 189 m x false) (hm:a.eval m= .map (some b)) (h:zcS b n f w) (s:ByteArray) (hx:a.eval x= .string s) (hs:s.size≤maxLen) (g:Nat) (hf:f s=some g)
 (hK:wpList Tryz.prog ops Q rest (a.put o.dst (.pointer (some ⟨g,0,none⟩))) w):wpList Tryz.prog ops Q (o::rest) a w:=by
 refine wpList_plain hg fun K' hK'=> ?_
 have hrun:=h.look hs hf
 unfold Oper.wp
 simp [execOp,hop,hm,hx,hrun,Result.andThen]
 exact hK' _ _ hK
theorem wp_ptr_put {f:ByteArray→Option Nat} (hg:o.guard=none) (m x v:Operand) (hop:o.op=Op.mapUpdate 189 m x v) (hm:a.eval m= .map (some b)) (h:zcS b n f w) (s:ByteArray) (hx:a.eval x= .string s) (g:Nat) (hv:a.eval v= .pointer (some ⟨g,0,none⟩)) (hs:s.size≤maxLen) (hn:n<maxLen)
 (hK:∀w',zcS b (n+1) (fun x=>if x=s then some g else f x) w'→w.grownBy w' (some b)→wpList Tryz.prog ops Q rest (a.put o.dst undef) w'):wpList Tryz.prog ops Q (o::rest) a w:=by
 refine wpList_plain hg fun K' hK'=> ?_
 obtain ⟨w',hrun,r1,r2⟩:=h.put (g:=g) hs hn
 unfold Oper.wp
 simp [execOp,hop,hm,hx,hv,hrun,Result.andThen]
 exact hK' _ _ (hK w' r1 r2)
end
def zcy (names:List ByteArray) (j:Nat):ByteArray:=names.getD j ByteArray.empty
def rowV (s:ByteArray) (n c:Nat):Array Value:= #[.int .i64 (rowAt s n c:Int),.int .i64 (zcK s n:Int)]
structure zcc (w:World) (B:Nat) (names:List ByteArray) (n k:Nat) (gs cs:Nat→Nat):Prop where
 inj:∀i j,i<k→j<k→gs i=gs j→i=j
 base:∀j,j<k→B≤gs j
 blk:∀j,j<k→Blk w (gs j) 191 (rowV (zcy names j) n (cs j))
theorem zcc.none_ (w:World) (B:Nat) (names:List ByteArray) (n:Nat) (gs cs:Nat→Nat):zcc w B names n 0 gs cs:=⟨fun _ _ h=>absurd h (by omega),fun _ h=>absurd h (by omega),fun _ h=>absurd h (by omega)⟩
theorem zcc.kept {w w':World} {B n k:Nat} {names:List ByteArray} {gs cs:Nat→Nat} {row:Option Nat} (h:zcc w B names n k gs cs) (hg:w.grownBy w' row) (hne:∀g,row=some g→g<B):zcc w' B names n k gs cs:=
 ⟨h.inj,h.base,fun j hj=>(h.blk j hj).grown hg (fun e=>by have:=hne _ e.symm;have:=h.base j hj;omega)⟩
theorem zcc.below {w w':World} {B n k:Nat} {names:List ByteArray} {gs cs:Nat→Nat} (h:zcc w B names n k gs cs) (hb:Below w.heap.size w w'):zcc w' B names n k gs cs:=
 ⟨h.inj,h.base,fun j hj=>(h.blk j hj).below hb (h.blk j hj).lt⟩
theorem zcc.far {w:World} {B n k:Nat} {names:List ByteArray} {gs cs:Nat→Nat} (h:zcc w B names n k gs cs) {p:Addr} (hp:∀j,j<k→gs j≠p.block) (u:Value):zcc (w.setCell p u) B names n k gs cs:=
 ⟨h.inj,h.base,fun j hj=>(h.blk j hj).far (hp j hj) u⟩
theorem zcc.step {w:World} {B n k:Nat} {names:List ByteArray} {gs cs:Nat→Nat} (h:zcc w B names n k gs cs) {j:Nat} (hj:j<k):
 zcc ((w.setCell ⟨gs j,0,none⟩ (.int .i64 (rowAt (zcy names j) n (cs j+1):Int))).drew) B names n k gs (fun x=>if x=j then cs j+1 else cs x):=by
 refine ⟨h.inj,h.base,fun i hi=> ?_⟩
 by_cases hij:i=j
 ·subst hij
  have:=((h.blk i hi).zbk 0 (.int .i64 (rowAt (zcy names i) n (cs i+1):Int))).drew
  simpa [rowV] using this
 ·simp only [if_neg hij]
  exact ((h.blk i hi).far (fun e=>hij (h.inj i j hi hj e)) _).drew
theorem zcc.more {w:World} {B n k g:Nat} {names:List ByteArray} {gs cs:Nat→Nat} (h:zcc w B names n k gs cs) (hB:B≤g) (hne:∀j,j<k→gs j≠g) (hb:Blk w g 191 (rowV (zcy names k) n 0)):
 zcc w B names n (k+1) (fun x=>if x=k then g else gs x) (fun x=>if x=k then 0 else cs x):=by
 refine ⟨fun i j hi hj he=> ?_,fun j hj=> ?_,fun j hj=> ?_⟩
 ·by_cases h1:i=k<;>by_cases h2:j=k
  ·omega
  ·simp only [if_pos h1,if_neg h2] at he
   exact absurd he.symm (hne j (by omega))
  ·simp only [if_neg h1,if_pos h2] at he
   exact absurd he (hne i (by omega))
  ·simp only [if_neg h1,if_neg h2] at he
   exact h.inj i j (by omega) (by omega) he
 ·by_cases h1:j=k
  ·simp only [if_pos h1];exact hB
  ·simp only [if_neg h1];exact h.base j (by omega)
 ·by_cases h1:j=k
  ·subst h1
   simp only [if_pos];exact hb
  ·simp only [if_neg h1];exact h.blk j (by omega)
def slotI (hosts names:List ByteArray) (v:Int):Int:=if v<0 then -1 else idx hosts (zcy names v.toNat)
def outV (hosts names:List ByteArray) (T:List Int):List Value:=T.map fun v=>Value.int .i64 (slotI hosts names v)
theorem outV_start (hosts names:List ByteArray) (n:Nat):outV hosts names (tab names n 0)=List.replicate n (.int .i64 (-1)):=by
 simp [outV,tab,slotI]
theorem outV_get {hosts names:List ByteArray} {T:List Int} {p:Nat} (hp:p<T.length):(outV hosts names T).toArray[p]? =some (.int .i64 (slotI hosts names (T.getD p 0))):=by
 simp [outV,hp]
theorem outV_set {hosts names:List ByteArray} {T:List Int} {p j:Nat}:(outV hosts names T).toArray.setIfInBounds p (.int .i64 (idx hosts (zcy names j)))=(outV hosts names (T.set p (j:Int))).toArray:=by
 simp only [List.setIfInBounds_toArray]
 congr 1
 unfold outV
 rw [List.map_set]
 congr 2
theorem slot_free {hosts names:List ByteArray} {m:Nat} {v:Int} (hv:v= -1∨0≤v∧v<m) (hm:m=names.length) (hs:∀x∈names,x∈hosts):decide (slotI hosts names v≥0)=decide (¬v<0):=by
 unfold slotI
 rcases hv with rfl|⟨h1,h2⟩
 ·simp
 ·rw [if_neg (by omega)]
  have hl:v.toNat<names.length:=by omega
  have hmem:zcy names v.toNat∈hosts:=hs _ (by unfold zcy;rw [List.getD_eq_getElem?_getD,List.getElem?_eq_getElem hl];exact List.getElem_mem hl)
  obtain ⟨k,_,hk,_⟩:=zc4 hmem
  rw [hk]
  simp;omega
structure MkSt (w w1:World) (l names:List ByteArray) (n b ob:Nat) (f:ByteArray→Option Nat) (gs cs:Nat→Nat) (T:List Int):Prop where
 ptr:zcS b names.length f w
 rows:zcc w (b+1) names n names.length gs cs
 out:Blk w ob 3 (outV l names T).toArray
 low:Below b w1 w
 sep:∀j,j<names.length→gs j<ob
 hob:b<ob
theorem MkSt.next {w w1:World} {l names:List ByteArray} {n b ob:Nat} {f:ByteArray→Option Nat} {gs cs:Nat→Nat} {T:List Int} (h:MkSt w w1 l names n b ob f gs cs T) {j:Nat} (hj:j<names.length):
 MkSt ((w.setCell ⟨gs j,0,none⟩ (.int .i64 (rowAt (zcy names j) n (cs j+1):Int))).drew) w1 l names n b ob f gs (fun x=>if x=j then cs j+1 else cs x) T:=by
 have hbj:=h.rows.base j hj
 have hsj:=h.sep j hj
 refine ⟨?_,h.rows.step hj,(h.out.far (by show ob≠gs j;omega) _).drew, ?_,h.sep,h.hob⟩
 ·exact (h.ptr.kept (zce (World.grownBy.refl w _) (.inl rfl) _) (by intro e;injection e with e;have:b=gs j:=e;omega)).drew
 ·exact below_drew (h.low.setCell (p:=⟨gs j,0,none⟩) (by show b≤gs j;omega) _)
theorem MkSt.put {w w1:World} {l names:List ByteArray} {n b ob:Nat} {f:ByteArray→Option Nat} {gs cs:Nat→Nat} {T:List Int} (h:MkSt w w1 l names n b ob f gs cs T) (p j:Nat):
 MkSt (w.setCell ⟨ob,p,none⟩ (.int .i64 (idx l (zcy names j)))) w1 l names n b ob f gs cs (T.set p (j:Int)):=by
 have ho:=h.hob
 refine ⟨?_,h.rows.far (fun i hi=>by have:=h.sep i hi;show gs i≠ob;omega) _, ?_, ?_,h.sep,h.hob⟩
 ·exact h.ptr.kept (zce (World.grownBy.refl w _) (.inl rfl) _) (by intro e;injection e with e;have:b=ob:=e;omega)
 ·rw [←outV_set];exact h.out.zbk p _
 ·exact h.low.setCell (p:=⟨ob,p,none⟩) (by show b≤ob;omega) _
def Passed (names:List ByteArray) (n:Nat) (T:List Int) (cs:Nat→Nat):Prop:=∀j,j<names.length→cs j≤n∧∀i,i<cs j→¬T.getD (rowAt (zcy names j) n i) 0<0
theorem Passed.start (names:List ByteArray) (n:Nat) (T:List Int):Passed names n T (fun _=>0):=fun _ _=>⟨Nat.zero_le _,fun _ h=>absurd h (Nat.not_lt_zero _)⟩
theorem zfW {T:List Int} {p q j:Nat} (h:¬T.getD p 0<0):¬(T.set q (j:Int)).getD p 0<0:=by
 rw [List.getD_eq_getElem?_getD,List.getElem?_set]
 by_cases hq:q=p
 ·subst hq
  by_cases hl:q<T.length
  ·rw [if_pos rfl,if_pos hl];simp
  ·rw [if_pos rfl,if_neg hl];simp
 ·rw [if_neg hq,←List.getD_eq_getElem?_getD];exact h
theorem getD_set_new {T:List Int} {q j:Nat} (hq:q<T.length):¬(T.set q (j:Int)).getD q 0<0:=by
 rw [List.getD_eq_getElem?_getD,List.getElem?_set,if_pos rfl,if_pos hq];simp
theorem Passed.turn {names:List ByteArray} {n t c:Nat} {cs:Nat→Nat} (hn:2≤n) (h:Passed names n (tab names n t) cs) (hc:c<n) (hff:firstFree (zcy names (t%names.length)) n (tab names n t)=c) (hall:∀i,i<c→¬(tab names n t).getD (rowAt (zcy names (t%names.length)) n i) 0<0):
 Passed names n (tab names n (t+1)) (fun x=>if x=t%names.length then c+1 else cs x):=by
 intro j hj
 have e:tab names n (t+1)=(tab names n t).set (rowAt (zcy names (t%names.length)) n c) ((t%names.length:Nat):Int):=by
  unfold zcy at hff ⊢
  rw [tab,hff]
 rw [e]
 by_cases hjt:j=t%names.length
 ·subst hjt
  simp only [if_pos]
  refine ⟨by omega,fun i hi=> ?_⟩
  rcases Nat.lt_succ_iff_lt_or_eq.1 hi with h1|rfl
  ·exact zfW (hall i h1)
  ·exact getD_set_new (by rw [zeK];exact zfF _ _ hn)
 ·simp only [if_neg hjt]
  exact ⟨(h j hj).1,fun i hi=>zfW ((h j hj).2 i hi)⟩
theorem tab_next {names:List ByteArray} {n t c:Nat} (hff:firstFree (zcy names (t%names.length)) n (tab names n t)=c):tab names n (t+1)=(tab names n t).set (rowAt (zcy names (t%names.length)) n c) ((t%names.length:Nat):Int):=by
 unfold zcy at hff ⊢
 rw [tab,hff]
end Go.Proofs.YthkfhfldoniolaaGreatDoor
namespace Go.Proofs.YthkfhfldoniolaaGreatDoor
open Go.RowKit
def zar (n:Int):Option Flt:=if n<2∨503<n then some ⟨2,none⟩ else if zdV n.toNat then none else some ⟨3,none⟩
theorem sizeFault_none {n:Int} (h:zar n=none):∃k:Nat,n=(k:Int)∧2≤k∧k≤503∧zdV k:=by
 unfold zar at h
 split at h
 ·cases h
 ·split at h
  ·rename_i h1 h2
   exact ⟨n.toNat,by omega,by omega,by omega,h2⟩
  ·cases h
theorem sizeFault_code {n:Int} {f:Flt} (h:zar n=some f):1≤f.code∧f.code≤9:=by
 unfold zar at h
 split at h
 ·obtain rfl:=Option.some.inj h;exact ⟨by decide,by decide⟩
 ·split at h
  ·cases h
  ·obtain rfl:=Option.some.inj h;exact ⟨by decide,by decide⟩
structure ErrsZ (ea:Nat→Addr) (w:World):Prop where
 c2:w.cell? ⟨gv 2,0,none⟩=some (.iface 355 (.pointer (some (ea (gv 2)))))
 c3:w.cell? ⟨gv 3,0,none⟩=some (.iface 355 (.pointer (some (ea (gv 3)))))
theorem ErrsZ.below {ea:Nat→Addr} {w w':World} (h:ErrsZ ea w) (hb:Below w.heap.size w w'):ErrsZ ea w':=
 ⟨(hb.cell (lt_of_cell h.c2)).trans h.c2,(hb.cell (lt_of_cell h.c3)).trans h.c3⟩
def zd0 (ea:Nat→Addr) (n:Int) (w:World) (e:Ending) (w':World):Prop:=match zar n with
 |none=>e= .returned .nilIface∧w=w'
 |some f=>e= .returned (.iface 355 (.pointer (some (ea (gv f.code)))))∧w=w'
theorem sizePost_bad {ea:Nat→Addr} {n:Int} {f:Flt} {w:World} (h:zar n=some f):zd0 ea n w (.returned (.iface 355 (.pointer (some (ea (gv f.code)))))) w:=by
 unfold zd0;rw [h];exact ⟨rfl,rfl⟩
theorem sizePost_good {ea:Nat→Addr} {n:Int} {w:World} (h:zar n=none):zd0 ea n w (.returned .nilIface) w:=by
 unfold zd0;rw [h];exact ⟨rfl,rfl⟩
theorem size_ways {n:Int} (h:n<2∨503<n):(decide (n<2)=true)∨(decide (n<2)=false∧decide (n>503)=true):=by
 simp only [decide_eq_true_eq,decide_eq_false_iff_not];omega
theorem mod_test (n k:Nat):(((n:Int)%(k:Int))==0)=decide (n%k=0):=by
 rw [Bool.eq_iff_iff]
 simp only [beq_iff_eq,decide_eq_true_eq]
 have:((n:Int)%(k:Int))=((n%k:Nat):Int):=rfl
 omega
set_option maxRecDepth 100000 in
theorem size_any (ea:Nat→Addr) (n:Int) (w:World) (hE:ErrsZ ea w):Calls Tryz.prog 120 #[.int .i64 n] w (zd0 ea n w):=by
 have c2:=hE.c2
 have c3:=hE.c3
 dsimp only [gv] at c2 c3
 by_cases h:n<2∨503<n
 ·have HP:=Lib.hid (sizePost_bad (ea:=ea) (w:=w) (show zar n=some ⟨2,none⟩ by unfold zar;rw [if_pos h]))
  dsimp only [gv] at HP
  have hw:=size_ways h
  clear h hE c3
  rcases hw with t1|⟨t1,t2⟩
  all_goals
   go_enter Tryz.func120,Tryz.ntmps120
   go_wp2
   go_ret
   exact HP.out
 ·obtain ⟨m,rfl⟩:=Int.eq_ofNat_of_zero_le (by omega:0≤n)
  have hm2:2≤m:=by omega
  have hm5:m≤503:=by omega
  have HN:=Lib.hid (fun (hd:zdV m)=>sizePost_good (ea:=ea) (w:=w) (show zar (m:Int)=none by unfold zar;rw [if_neg h,if_pos (by simpa using hd)]))
  have HB:=Lib.hid (fun (hd:¬zdV m)=>sizePost_bad (ea:=ea) (w:=w) (show zar (m:Int)=some ⟨3,none⟩ by unfold zar;rw [if_neg h,if_neg (by simpa using hd)]))
  dsimp only [gv] at HB
  have t1:decide ((m:Int)<2)=false:=by simp;omega
  have t2:decide ((m:Int)>503)=false:=by simp;omega
  clear h hE c2
  go_enter Tryz.func120,Tryz.ntmps120
  go_wp2
  go_loop [3] (fun kv=>∃k:Nat,2≤k∧k≤24∧kv= .int .i64 (k:Int)∧Hid (∀j,2≤j→j<k→m%j≠0)) (fun kv=>30- (intOf kv).toNat)
  case atStart=>exact ⟨2,by omega,by omega,rfl,Lib.hid fun j h1 h2=>by omega⟩
  case round=>
   obtain ⟨k,hk2,hk24,rfl,hall⟩:=hrel
   have hsq:k*k≤24*24:=Nat.mul_le_mul hk24 hk24
   have hc:(k:Int)*(k:Int)=((k*k:Nat):Int):=by push_cast;rfl
   have hx0:(0:Int)≤(k:Int)*(k:Int):=by omega
   have hx1:(k:Int)*(k:Int)≤1000:=by omega
   by_cases hkk:k*k≤m
   ·have tt:decide ((k:Int)*(k:Int)≤(m:Int))=true:=by rw [decide_eq_true_eq];omega
    have hk23:k<24:=by
     rcases Nat.lt_or_ge k 24 with h|h
     ·exact h
     ·have:=Nat.mul_le_mul h h;omega
    have hmt:=mod_test m k
    by_cases hd:m%k=0
    ·rw [decide_eq_true hd] at hmt
     have hkm:k<m:=by
      have:k*2≤k*k:=Nat.mul_le_mul_left k hk2
      omega
     have HR:=Lib.hid (HB.out fun hno=>hno k hk2 hkm hd)
     clear hc hkk hd hsq
     go_wp2
     go_ret
     exact HR.out
    ·rw [decide_eq_false hd] at hmt
     have HA:Hid (∀j,2≤j→j<k+1→m%j≠0):=Lib.hid fun j h1 h2=>by
      rcases Nat.lt_succ_iff_lt_or_eq.1 h2 with h|rfl
      ·exact hall.out j h1 h
      ·exact hd
     clear hc hkk hd hsq hall
     go_wp2
     go_round
     case rel=>exact ⟨k+1,by omega,by omega,by go_num,HA⟩
     case measure=>simp [intOf];omega
   ·have tt:decide ((k:Int)*(k:Int)≤(m:Int))=false:=by rw [decide_eq_false_iff_not];omega
    have HR:=Lib.hid (HN.out (noDiv_of_small hall.out (by omega)))
    clear hc hkk hsq hall
    go_wp2
    go_ret
    exact HR.out
def zcV (n:Int):Nat:=match zar n with|none=>0|some f=>f.code
set_option maxRecDepth 100000 in
theorem sizeError_any (n:Int) (w:World):Calls Tryz.prog 64 #[.int .i64 n] w fun e w'=>e= .returned (.int .i64 (zcV n:Int))∧w=w':=by
 by_cases h:n<2∨503<n
 ·have HP:Hid (zcV n=2):=Lib.hid (by unfold zcV zar;rw [if_pos h])
  have hw:=size_ways h
  clear h
  rcases hw with t1|⟨t1,t2⟩
  all_goals
   go_enter Tryz.func64,Tryz.ntmps64
   go_wp2
   go_ret
   exact ⟨by rw [HP.out];rfl,rfl⟩
 ·obtain ⟨m,rfl⟩:=Int.eq_ofNat_of_zero_le (by omega:0≤n)
  have hm2:2≤m:=by omega
  have hm5:m≤503:=by omega
  have HN:=Lib.hid (fun (hd:zdV m)=>(show zcV (m:Int)=0 by unfold zcV zar;rw [if_neg h,if_pos (by simpa using hd)]))
  have HB:=Lib.hid (fun (hd:¬zdV m)=>(show zcV (m:Int)=3 by unfold zcV zar;rw [if_neg h,if_neg (by simpa using hd)]))
  have t1:decide ((m:Int)<2)=false:=by simp;omega
  have t2:decide ((m:Int)>503)=false:=by simp;omega
  clear h
  go_enter Tryz.func64,Tryz.ntmps64
  go_wp2
  go_loop [3] (fun kv=>∃k:Nat,2≤k∧k≤m∧kv= .int .i64 (k:Int)∧Hid (∀j,2≤j→j<k→m%j≠0)) (fun kv=>m- (intOf kv).toNat)
  case atStart=>exact ⟨2,by omega,hm2,rfl,Lib.hid fun j h1 h2=>by omega⟩
  case round=>
   obtain ⟨k,hk2,hkm,rfl,hall⟩:=hrel
   by_cases hlt:k<m
   ·have hlt2:(k:Int)<m:=by omega
    have hmt:=mod_test m k
    by_cases hd:m%k=0
    ·rw [decide_eq_true hd] at hmt
     have HR:=Lib.hid (HB.out fun hno=>hno k hk2 hlt hd)
     clear hd hall
     go_wp2
     go_ret
     exact ⟨by rw [HR.out];rfl,rfl⟩
    ·rw [decide_eq_false hd] at hmt
     have HA:Hid (∀j,2≤j→j<k+1→m%j≠0):=Lib.hid fun j h1 h2=>by
      rcases Nat.lt_succ_iff_lt_or_eq.1 h2 with h|rfl
      ·exact hall.out j h1 h
      ·exact hd
     clear hd hall
     go_wp2
     go_round
     case rel=>exact ⟨k+1,by omega,by omega,by go_num,HA⟩
     case measure=>simp [intOf];omega
   ·obtain rfl:k=m:=by omega
    have hge:¬(k:Int)<k:=by omega
    have HR:=Lib.hid (HN.out hall.out)
    clear hall
    go_wp2
    go_ret
    exact ⟨by rw [HR.out];rfl,rfl⟩
end Go.Proofs.YthkfhfldoniolaaGreatDoor
namespace Go.Proofs.YthkfhfldoniolaaGreatDoor
open Go.RowKit
def MulPost (n:Nat) (w:World) (e:Ending) (w':World):Prop:=e= .returned (.tuple #[.int .u64 0,.int .u64 (n:Int)])∧w=w'
theorem and_small (n:Nat) (h:n<4294967296):bits .and .u64 (n:Int) 4294967295=(n:Int):=by
 have h1:bits .and .u64 (n:Int) 4294967295=((BitVec.ofInt 64 (n:Int)&&& BitVec.ofInt 64 4294967295).toNat:Int):=by
  show IntKind.u64.wrap ((BitVec.ofInt 64 (n:Int)&&& BitVec.ofInt 64 4294967295).toNat:Int)=_
  exact IntWalk.u64_in _ (by have:=(BitVec.ofInt 64 (n:Int)&&& BitVec.ofInt 64 4294967295).isLt;omega)
 rw [h1,BitVec.toNat_and,BitVec.ofInt_natCast,BitVec.toNat_ofNat]
 have e:(BitVec.ofInt 64 4294967295).toNat=2^32-1:=by decide
 rw [e,Nat.and_two_pow_sub_one_eq_mod]
 have:n%2^64%2^32=n:=by omega
 omega
set_option maxRecDepth 100000 in
theorem mul64_one (n:Nat) (w:World) (hn:n≤1000):Calls Tryz.prog 208 #[.int .u64 1,.int .u64 (n:Int)] w (MulPost n w):=by
 have a1:bits .and .u64 1 4294967295=1:=by decide+kernel
 have a2:bits .and .u64 (n:Int) 4294967295=(n:Int):=and_small n (by omega)
 have a3:bits .and .u64 0 4294967295=0:=by decide+kernel
 have a4:(n:Int)/4294967296=0:=by omega
 unfold MulPost
 go_enter Tryz.func208,Tryz.ntmps208
 go_wp2
 go_ret2
 exact ⟨rfl,rfl⟩
set_option maxRecDepth 100000 in
theorem mul_one (n:Nat) (w:World) (hn:n≤1000):Calls Tryz.prog 164 #[.int .u64 1,.int .u64 (n:Int)] w (MulPost n w):=by
 have H:=Lib.hid (mul64_one n w hn)
 unfold MulPost at H ⊢
 go_enter Tryz.func164,Tryz.ntmps164
 go_wp2_with fail
 refine H.out.mono ?_
 rintro e w1 ⟨rfl,rfl⟩
 go_wp2
 go_ret2
 exact ⟨rfl,rfl⟩
def zej (k n:Nat):List Value:=List.replicate k (.int .i64 (-1))++List.replicate (n-k) (Value.int .i64 0)
theorem negV_length {k n:Nat} (h:k≤n):(zej k n).length=n:=by simp [zej];omega
theorem negV_splice (k n m:Nat):splice (zej k n) k (List.replicate m (.int .i64 (-1)))=zej (k+m) n:=by
 unfold splice zej
 have e1:(List.replicate k (Value.int .i64 (-1))++List.replicate (n-k) (Value.int .i64 0)).take k=List.replicate k (.int .i64 (-1)):=by
  rw [List.take_append_of_le_length (by simp)];simp
 have e2:(List.replicate k (Value.int .i64 (-1))++List.replicate (n-k) (Value.int .i64 0)).drop (k+(List.replicate m (Value.int .i64 (-1))).length)=List.replicate (n- (k+m)) (Value.int .i64 0):=by
  rw [List.drop_append]
  simp
  omega
 rw [e1,e2,←List.append_assoc,List.replicate_append_replicate]
theorem negV_get {k n j:Nat} (hj:j<k):(zej k n)[j]? =some (.int .i64 (-1)):=by
 unfold zej
 rw [List.getElem?_append_left (by simpa using hj)]
 simp [hj]
theorem make_zeros (n:Nat) (hn:n≤1000) (W:World):(Instr.makeSlice 29 (.int .i64 (n:Int)) (.int .i64 (n:Int))).run Tryz.prog W= .ok (.slice (some ⟨W.heap.size,0,none⟩) n n) (W.alloc (.cells (zej 0 n).toArray 3)):=by
 rw [make_counts n hn W]
 congr 4
 simp [zej,zfX,countsL,List.map_const']
def RepPost (n:Nat) (w:World) (e:Ending) (w':World):Prop:=∃g,e= .returned (.slice (some ⟨g,0,none⟩) n n)∧Blk w' g 3 (List.replicate n (Value.int .i64 (-1))).toArray∧w.heap.size≤g∧Below w.heap.size w w'
theorem info_int1:(Tryz.prog.info? 3).map (·.size)=some 1:=by kernel_rfl
set_option maxRecDepth 100000 in
theorem repeat_any (g n:Nat) (w:World) (h1:1≤n) (hn:n≤1000) (hg:g<w.heap.size) (hc:w.cell? ⟨g,0,none⟩=some (.int .i64 (-1))):
 Calls Tryz.prog 122 #[.slice (some ⟨g,0,none⟩) 1 1,.int .i64 (n:Int)] w (RepPost n w):=by
 have H:=Lib.hid (mul_one n w hn)
 unfold MulPost at H
 have hmk:=make_zeros n hn
 have t1:decide ((n:Int)<0)=false:=by simp
 have hc2:=(World.cell?_alloc_lt w (.cells (zej 0 n).toArray 3) ⟨g,0,none⟩ hg).trans hc
 have hB:=Blk.new w 3 (zej 0 n).toArray
 have hb0:Below w.heap.size w (w.alloc (.cells (zej 0 n).toArray 3)):=(Below.refl _ _).alloc (Nat.le_refl _) _
 go_enter Tryz.func122,Tryz.ntmps122
 go_wp2_with fail
 refine H.out.mono ?_
 rintro e w1 ⟨rfl,rfl⟩
 go_wp2_with (first
  |(refine wpList_copy_splice rfl (.tmp 31) (.tmp 32) _ _ rfl 3 Tryz.underlying29 info_int1 _ _ n n 1 1 rfl rfl w.heap.size 0 (zej 0 n) 3 hB [.int .i64 (-1)] ?c1 ?c2 ?c3 ?c4 w.heap.size w hb0 (Nat.le_refl _) ?_)
  |fail)
 case c1=>show 1=min 1 n;omega
 case c2=>
  intro j v hv
  rcases j with _|j
  ·simp at hv
   subst hv
   exact hc
  ·simp at hv
 case c3=>rw [negV_length (Nat.zero_le _)];simp;omega
 case c4=>simp [Value.oneCell']
 intro w1 hB1 hb1
 have e1:=negV_splice 0 n 1
 rw [show (List.replicate 1 (Value.int .i64 (-1)))=[.int .i64 (-1)] from rfl,Nat.zero_add] at e1
 rw [e1] at hB1
 have HB1:Hid (Blk w1 w.heap.size 3 (zej 1 n).toArray):=hB1
 clear hB1 hmk hB hc2 e1
 go_wp2_with fail
 go_loopw [8] (fun kv wr=>∃k:Nat,1≤k∧k≤n∧kv= .int .i64 (k:Int)∧Hid (Blk wr w.heap.size 3 (zej k n).toArray)∧Below w.heap.size w wr) (fun kv _=>n- (intOf kv).toNat)
 case atStart=>exact ⟨1,by omega,h1,rfl,HB1,hb1⟩
 case round=>
  obtain ⟨k,hk1,hkn,rfl,hB,hb⟩:=hrel
  by_cases hlt:k<n
  ·have hlt2:(k:Int)<n:=by omega
   obtain ⟨m,hm,hm1⟩:∃m:Nat,m=min k (n-k)∧k+m≤n:=⟨_,rfl,by omega⟩
   have hsrc:∀(j:Nat) (v:Value),(List.replicate m (Value.int .i64 (-1)))[j]? =some v→wr.cell? ((⟨w.heap.size,0,none⟩:Addr).add j)=some v:=by
    intro j v hv
    have hj:j<m:=by
     have:=(List.getElem?_eq_some_iff.1 hv).1
     simpa using this
    have e:((⟨w.heap.size,0,none⟩:Addr).add j)=⟨w.heap.size,j,none⟩:=by
     by_cases h0:j=0
     ·subst h0;rfl
     ·simp [Addr.add,h0]
    rw [e,hB.out.cell j]
    have h2:=negV_get (k:=k) (n:=n) (j:=j) (by omega)
    have h3:(zej k n).toArray[j]? =some (Value.int .i64 (-1)):=by simpa using h2
    rw [h3,←hv]
    simp [hj]
   have HSrc:=Lib.hid hsrc
   have HSp:=Lib.hid (negV_splice k n m)
   have HM:=Lib.hid hm
   have hkk:(k:Int)≤n:=by omega
   have HB:=Lib.hid hB.out
   have hs1:IntKind.i64.wrap ((k:Int)+(m:Int))=((k+m:Nat):Int):=by rw [IntWalk.i64_in _ (by omega)];omega
   have hm0:1≤m:=by omega
   have HLen:=Lib.hid (negV_length (k:=k) (n:=n) hkn)
   clear hsrc hm hB
   go_wp2_with fail
   have hne:¬n=k:=by omega
   have HN:Hid ((List.replicate m (Value.int .i64 (-1))).length=Nat.min k (n-k)):=Lib.hid (by rw [List.length_replicate];exact HM.out)
   have HFit:Hid (k+(List.replicate m (Value.int .i64 (-1))).length≤(zej k n).length):=Lib.hid (by rw [List.length_replicate,HLen.out];exact hm1)
   have HOne:Hid (∀v∈List.replicate m (Value.int .i64 (-1)),v.oneCell'=true):=Lib.hid fun v hv=>by
    obtain rfl:=List.eq_of_mem_replicate hv
    rfl
   have HLm:Hid ((List.replicate m (Value.int .i64 (-1))).length=m):=Lib.hid (by simp)
   have HBel:=Lib.hid hb
   generalize List.replicate m (Value.int .i64 (-1))=cs at*
   clear hb hlt
   go_region_law ((refine step_copy_splice rfl (.tmp 41) (.tmp 44) _ _ rfl 3 Tryz.underlying29 info_int1 (some ⟨w.heap.size,k,none⟩) (some ⟨w.heap.size,0,none⟩) (n-k) (n-k) k n (by simp [Act.eval,Act.put]) (by simp [Act.eval,Act.put]) w.heap.size k (zej k n) 3 HB.out cs HN.out (fun _=>⟨rfl,_,rfl,HSrc.out⟩) HFit.out HOne.out w.heap.size w HBel.out.drew (Nat.le_refl _) ?_
                   intro w2 hB2 hb2
                   rw [HLm.out]))
   all_goals
    have HB2:Hid (Blk w2 w.heap.size 3 (zej (k+m) n).toArray):=Lib.hid (by
     have:=hB2.out
     rwa [HSp.out] at this)
    go_frame
    go_roundw
    case rel=>((repeat apply Exists.intro);exact ⟨⟨k+m,by omega,hm1,by first|rfl|go_num,HB2,hb2⟩,rfl⟩)
    case measure=>simp [intOf];omega
  ·obtain rfl:k=n:=by omega
   have hge:¬(k:Int)<k:=by omega
   have HF:=Lib.hid (show Blk wr w.heap.size 3 (List.replicate k (Value.int .i64 (-1))).toArray by
    have:=hB.out
    unfold zej at this
    simpa using this)
   go_wp2
   go_ret
   exact ⟨_,rfl,HF.out,Nat.le_refl _,hb⟩
end Go.Proofs.YthkfhfldoniolaaGreatDoor
namespace Go.Proofs.YthkfhfldoniolaaGreatDoor
open Go.RowKit Go.Maps
def tableOf (l:List ByteArray) (n:Nat):List Value:=outV l (za6 l) (table (za6 l) n)
def zdW (l:List ByteArray) (n:Nat) (w:World) (e:Ending) (w':World):Prop:=
 ∃g,e= .returned (.tuple #[.slice (some ⟨g,0,none⟩) n n,.nilIface])∧Blk w' g 3 (tableOf l n).toArray∧w.heap.size≤g∧Below w.heap.size w w'
def PtrLink (names:List ByteArray) (f:ByteArray→Option Nat) (gs:Nat→Nat) (k:Nat):Prop:=∀j,j<k→f (zcy names j)=some (gs j)
theorem nmAt_eq {names:List ByteArray} {k:Nat} (hk:k<names.length):zcy names k=names[k]:=by
 unfold zcy;rw [List.getD_eq_getElem?_getD,List.getElem?_eq_getElem hk];rfl
def Taken (T:List Int) (p:Nat):Prop:=¬T.getD p 0<0
instance (T:List Int) (p:Nat):Decidable (Taken T p):=by unfold Taken;infer_instance
theorem zcS.lt {b n:Nat} {f:ByteArray→Option Nat} {w:World} (h:zcS b n f w):b<w.heap.size:=by
 obtain ⟨D,ho,_⟩:=h;exact ho.lt
theorem PtrLink.more {names:List ByteArray} {f:ByteArray→Option Nat} {gs:Nat→Nat} {k g:Nat} (h:PtrLink names f gs k) (hn:names.Nodup) (hk:k<names.length):
 PtrLink names (fun x=>if x=names[k] then some g else f x) (fun x=>if x=k then g else gs x) (k+1):=by
 intro j hj
 by_cases h1:j=k
 ·subst h1
  simp only [if_pos,nmAt_eq hk]
 ·have hne:¬zcy names j=names[k]:=by
   rw [nmAt_eq (by omega)]
   exact List.pairwise_iff_getElem.1 hn j k (by omega) hk (by omega)
  simp only [if_neg hne,if_neg h1]
  exact h j (by omega)
theorem mkst_next {W w1:World} {l names:List ByteArray} {n b ob:Nat} {f:ByteArray→Option Nat} {gs cs:Nat→Nat} {T:List Int} (h:MkSt W w1 l names n b ob f gs cs T) {j:Nat} (hj:j<names.length) (hn:2≤n) (hn5:n≤503):
 ∃(p:Nat) (W':World),p<n∧Hid (p=rowAt (zcy names j) n (cs j))∧Hid (MkSt W' w1 l names n b ob f gs (fun x=>if x=j then cs j+1 else cs x) T)∧
  Hid (Calls Tryz.prog 123 #[.pointer (some ⟨gs j,0,none⟩),.int .i64 (n:Int)] W fun e w'=>e= .returned (.int .i64 (p:Int))∧W'=w'):=by
 have hB:=h.rows.blk j hj
 have hrl:=zfF (zcy names j) (cs j) hn
 have hsk:=skipOf_lt (zcy names j) hn
 have hN:=next_row (gs j) (rowAt (zcy names j) n (cs j)) (zcK (zcy names j) n) n W (by omega) (by omega) hn hn5 (hB.cell 0) (hB.cell 1) (hB.frozen 0)
 unfold NextPost at hN
 rw [←rowAt_succ] at hN
 exact ⟨_,_,hrl,Lib.hid rfl,Lib.hid (h.next hj),Lib.hid (hN.mono fun e w' ⟨h1,h2⟩=>⟨h1,h2.symm⟩)⟩
theorem mkst_load {W w1:World} {l names:List ByteArray} {n b ob t p:Nat} {f:ByteArray→Option Nat} {gs cs:Nat→Nat} (h:MkSt W w1 l names n b ob f gs cs (tab names n t)) (hT:TabOK names.length n t (tab names n t)) (hs:∀x∈names,x∈l) (hp:p<n):
 ∃sv:Int,W.cell? ⟨ob,p,none⟩=some (.int .i64 sv)∧W.frozen? ⟨ob,p,none⟩=false∧decide (sv≥0)=decide (Taken (tab names n t) p):=by
 have hl2:p<(tab names n t).length:=by rw [hT.len];exact hp
 refine ⟨_,(h.out.cell p).trans (outV_get hl2),h.out.frozen p, ?_⟩
 unfold Taken
 refine slot_free (m:=names.length) ?_ rfl hs
 rw [List.getD_eq_getElem?_getD,List.getElem?_eq_getElem hl2]
 exact hT.lt _ (List.getElem_mem hl2)
set_option maxRecDepth 100000 in
theorem make_ok (ea:Nat→Addr) (A:Option Addr) (c:Nat) (l:List ByteArray) (n:Nat) (w:World) (hE:zfo ea w) (hZ:ErrsZ ea w) (hr:Reads w w.heap.size 1 A l.length (zak l)) (hlc:l.length≤c) (hl:l.length≤maxLen) (hs:∀s∈l,s.size≤maxLen) (h0:0<l.length) (ho:zaf l=none) (hn:2≤n) (hn5:n≤503) (hd:zdV n):
 Calls Tryz.prog 73 #[.slice A l.length c,.int .i64 (n:Int)] w (zdW l n w):=by
 obtain ⟨h12,hnm,hnd⟩:=zal.1 ho
 have hmm:= @run_makeMap Tryz.prog
 have hsl:=zcd l
 have HS:Hid (Calls Tryz.prog 119 #[.slice A l.length c] w fun e w'=>∃A' cap,e= .returned (.tuple #[.slice A' (za6 l).length cap,.nilIface])∧w'.ownsRow w.heap.size 9 1 (.slice A' (za6 l).length cap) (za6 l).length (zak (za6 l))∧Below w.heap.size w w'):=
  Lib.hid ((zes ea A c l w hE hr hlc hl hs ho).mono fun e w' ⟨A',cap,he,h2,hb⟩=>⟨A',cap,by rw [hsl];exact he,by rw [hsl];exact h2,hb⟩)
 have HZ:Hid (∀W,Below w.heap.size w W→Calls Tryz.prog 120 #[.int .i64 (n:Int)] W fun e w'=>e= .returned .nilIface∧W=w'):=Lib.hid fun W hW=>by
  have:=size_any ea (n:Int) W (hZ.below hW)
  unfold zd0 at this
  rw [show zar (n:Int)=none by unfold zar;rw [if_neg (by omega),if_pos (by simpa using hd)]] at this
  exact this
 have HIX:Hid (∀x∈l,∀W,Below w.heap.size w W→Calls Tryz.prog 124 #[.slice A l.length c,.string x] W fun e w'=>e= .returned (.int .i64 (idx l x))∧W=w'):=
  Lib.hid fun x _ W hW=>zfw A c W.heap.size l x W ((hr.below hW).more hW.size) hl
 have hperm:=(zbR l).1
 have hsnd:(za6 l).Nodup:=hperm.nodup_iff.2 hnd
 have HMem:=Lib.hid (fun x (hx:x∈za6 l)=>(hperm.mem_iff.1 hx:x∈l))
 have HSz:=Lib.hid (fun x (hx:x∈za6 l)=>hs x (hperm.mem_iff.1 hx))
 have HT:Hid (∀g e w',e= .returned (.tuple #[.slice (some ⟨g,0,none⟩) n n,.nilIface])→Blk w' g 3 (outV l (za6 l) (tab (za6 l) n n)).toArray→w.heap.size≤g→Below w.heap.size w w'→zdW l n w e w'):=Lib.hid fun g e w' h1 h2 h3 h4=>⟨g,h1,h2,h3,h4⟩
 have hm0:0<(za6 l).length:=by omega
 have hm12:(za6 l).length≤12:=by omega
 generalize za6 l=names at*
 have HTab:=Lib.hid (fun t (ht:t≤n)=>tab_ok names hm0 hn hd t ht)
 have HFF:=Lib.hid (fun s t (ht:t<n)=>zdw (s:=s) hn hd (tab_ok names hm0 hn hd t (by omega)).len (by rw [(tab_ok names hm0 hn hd t (by omega)).free];omega))
 have HND:=Lib.hid hsnd
 have z0:((l.length:Int)==0)=false:=beq_eq_false_iff_ne.2 (by omega)
 have z1:¬l=[]:=fun e=>by simp [e] at h0
 have HD:=Lib.hid hd
 clear hE hZ hr hs ho hnm hnd hperm hsnd hsl hd
 go_enter Tryz.func73,Tryz.ntmps73
 go_wp2_with fail
 refine HS.out.mono ?_
 rintro e w1 ⟨A1,c1,rfl,ho1,hb1⟩
 have HR1:=Lib.hid (Reads.zbv ho1)
 clear ho1
 go_wp2_with fail
 refine (HZ.out _ hb1).mono ?_
 rintro e w2 ⟨rfl,rfl⟩
 go_wp2_with fail
 have hM0:=zcS.made w1
 have hbM:Below w1.heap.size w1 (w1.alloc (.map #[] 0)):=(Below.refl _ _).alloc (Nat.le_refl _) _
 go_loopg [38] names.length (fun g kv wr=>∃(k:Nat) (f:ByteArray→Option Nat) (gs cs:Nat→Nat),k+g=names.length∧kv= .int .i64 (k:Int)∧zcS w1.heap.size k f wr∧Hid (PtrLink names f gs k)∧Hid (zcc wr (w1.heap.size+1) names n k gs cs)∧Hid (∀j,j<k→cs j=0)∧Below w1.heap.size w1 wr)
 case atStart=>exact ⟨0,_,fun _=>0,fun _=>0,by omega,rfl,hM0,Lib.hid fun j h=>absurd h (by omega),Lib.hid (zcc.none_ _ _ _ _ _ _),Lib.hid fun j h=>absurd h (by omega),hbM⟩
 case round=>
  obtain ⟨k,f,gs,cs,hkg,rfl,hM,hL,hR,hcs,hb⟩:=hrel
  by_cases hlt:k<names.length
  ·have hlt2:(k:Int)<names.length:=by omega
   obtain ⟨ad,rfl,hS⟩:=zdh ((HR1.out.below hb).more hb.size) hlt
   have hsz:=HSz.out _ (List.getElem_mem hlt)
   have c0:=hS wr (Below.refl _ _)
   have HRow:=Lib.hid (fun W=>rowOf_any names[k] n W hsz hn hn5)
   unfold RowOfPost at HRow
   have HLM:=Lib.hid (fun g=>hL.out.more (g:=g) HND.out hlt)
   have HEq:=Lib.hid (nmAt_eq hlt)
   generalize names[k]=x at*
   clear hS
   go_wp2_with fail
   refine (HRow.out _).mono ?_
   rintro e w3 ⟨rfl,hb3⟩
   have hR3:=hR.out.below hb3
   have hM3:=hM.below hb3
   have hb13:=zaa hb hb3
   have hgs:∀j,j<k→gs j<w3.heap.size:=fun j hj=>Nat.lt_of_lt_of_le (hR.out.blk j hj).lt hb3.size
   have hBn:=Blk.new w3 191 (rowV x n 0)
   have hM4:=hM3.kept (World.grownBy_alloc w3 (.cells (rowV x n 0) 191) none) (by simp)
   have hR4:=hR3.kept (World.grownBy_alloc w3 (.cells (rowV x n 0) 191) none) (by simp)
   have hb14:=hb13.alloc hb13.size (.cells (rowV x n 0) 191)
   have hk12:k<maxLen:=by unfold maxLen;omega
   have HR4:=Lib.hid hR4
   have HGs:=Lib.hid hgs
   have HBn:=Lib.hid hBn
   have HB14:=Lib.hid hb14
   have hb1lt:w1.heap.size<w3.heap.size:=by have:=hM3.lt;omega
   clear hR hR3 hM hM3 hR4 hgs hBn hb14 hb3 hb13
   unfold rowV at hM4
   go_wp2_with (first
    |(at_mapUpdate
      go_must (refine wp_ptr_put rfl _ _ _ rfl rfl hM4 x rfl w3.heap.size rfl hsz hk12 ?_)
      intro w4 hM5 hg4)
    |fail)
   have hR5:=HR4.out.kept hg4 (fun g e=>by cases e;omega)
   have hB5:=HBn.out.grown hg4 (fun e=>by injection e with e;omega)
   have hb5:=HB14.out.grown hg4 (by have:=HB14.out.size;exact this) (fun g e=>by cases e;exact Nat.le_refl _)
   rw [←HEq.out] at hB5
   have hR6:=hR5.more (g:=w3.heap.size) (by omega) (fun j hj=>by have:=HGs.out j hj;omega) hB5
   have HR6:=Lib.hid hR6
   have HC0:Hid (∀j,j<k+1→(fun y=>if y=k then 0 else cs y) j=0):=Lib.hid fun j hj=>by
    by_cases h1:j=k
    ·simp [h1]
    ·simp only [if_neg h1];exact hcs.out j (by omega)
   have HL6:=Lib.hid (HLM.out w3.heap.size)
   clear hR5 hB5 hR6 hcs hL
   go_roundg (names.length- (k+1))
   case rel=>exact ⟨k+1,_,_,_,by omega,by go_num,hM5,HL6,HR6,HC0,hb5⟩
   case measure=>omega
  ·obtain rfl:k=names.length:=by omega
   have hge:¬(names.length:Int)<names.length:=by omega
   have hR0:=hR.out
   have hbl:=hb.alloc hb.size (.cells #[.int .i64 (-1)] 3)
   have hc0:(wr.alloc (.cells #[.int .i64 (-1)] 3)).cell? ⟨wr.heap.size,0,none⟩=some (.int .i64 (-1)):=(Blk.new wr _ _).cell 0
   have HRep:=Lib.hid (repeat_any wr.heap.size n (wr.alloc (.cells #[.int .i64 (-1)] 3)) (by omega) (by omega) (by simp) hc0)
   unfold RepPost at HRep
   have hba:Below wr.heap.size wr (wr.alloc (.cells #[.int .i64 (-1)] 3)):=(Below.refl _ _).alloc (Nat.le_refl _) _
   have HPst:Hid (∀ob w5,Blk w5 ob 3 (List.replicate n (Value.int .i64 (-1))).toArray→(wr.alloc (.cells #[.int .i64 (-1)] 3)).heap.size≤ob→Below (wr.alloc (.cells #[.int .i64 (-1)] 3)).heap.size (wr.alloc (.cells #[.int .i64 (-1)] 3)) w5→
    MkSt w5 w1 l names n w1.heap.size ob f gs (fun _=>0) (tab names n 0)∧Below w1.heap.size w1 w5):=Lib.hid fun ob w5 h1 h2 h3=>by
    have hbx:=zaa hba h3
    have hR5:=hR0.below hbx
    have e:(wr.alloc (.cells #[.int .i64 (-1)] 3)).heap.size=wr.heap.size+1:=by simp
    have hml:=hM.lt
    refine ⟨⟨hM.below hbx,⟨hR5.inj,hR5.base,fun j hj=> ?_⟩,by rw [outV_start];exact h1,zaa hb hbx,fun j hj=> ?_,by omega⟩,zaa hb hbx⟩
    ·have:=hR5.blk j hj
     rwa [hcs.out j hj] at this
    ·have:=(hR0.blk j hj).lt
     omega
   have HL:=Lib.hid hL.out
   clear hR hR0 hbl hc0 hba hM hcs hL hb
   go_wp2_with fail
   refine HRep.out.mono ?_
   rintro e w5 ⟨ob,rfl,hB5,hob,hb5⟩
   obtain ⟨hSt,hb15⟩:=HPst.out ob w5 hB5 hob hb5
   have HSt:=Lib.hid hSt
   clear hSt hB5 hob hb5
   go_wp2_with fail
   go_loopg [14] n (fun g lv wr=>∃(t:Nat) (cs:Nat→Nat),g+t=n∧lv= .int .i64 ((n-t:Nat):Int)∧Hid (t<n→t%names.length=0)∧Hid (MkSt wr w1 l names n w1.heap.size ob f gs cs (tab names n t))∧Hid (Passed names n (tab names n t) cs))
   case atStart=>exact ⟨0,_,by omega,by simp,Lib.hid fun _=>Nat.zero_mod _,HSt,Lib.hid (Passed.start _ _ _)⟩
   case round=>
    obtain ⟨t0,cs,hg,rfl,ht0,hS0,hP0⟩:=hrel
    by_cases hlt:t0<n
    ·have hlt2:((n-t0:Nat):Int)>0:=by omega
     have b53:decide (0<n-t0)=true:=by simp;omega
     have b53b:decide (t0<n)=true:=by simp;omega
     go_wp2_with fail
     obtain ⟨wo,rfl⟩:∃wo:World,wo=wr:=⟨_,rfl⟩
     obtain ⟨g0,rfl⟩:∃g0:Nat,g0=gk:=⟨_,rfl⟩
     go_loopg [14,56] names.length (fun g lv kv wi=>∃(k t:Nat) (cs:Nat→Nat),g+k=names.length∧t≤n∧t0≤t∧Hid (0<k→t0<t)∧kv= .int .i64 (k:Int)∧lv= .int .i64 ((n-t:Nat):Int)∧Hid (t<n→t%names.length=k%names.length)∧Hid (MkSt wi w1 l names n w1.heap.size ob f gs cs (tab names n t))∧Hid (Passed names n (tab names n t) cs))
     case atStart=>exact ⟨0,t0,cs,by omega,by omega,Nat.le_refl _,Lib.hid fun h=>absurd h (by omega),rfl,rfl,Lib.hid fun h=>by rw [ht0.out h,Nat.zero_mod],hS0,hP0⟩
     case round=>
      obtain ⟨k,t,cs,hgk,htn,ht0t,hprog,rfl,rfl,hmod,hS,hP⟩:=hrel
      by_cases hkl:k<names.length
      ·have hkl2:(k:Int)<names.length:=by omega
       obtain ⟨ad,rfl,hSA⟩:=zdh ((HR1.out.below hS.out.low).more hS.out.low.size) hkl
       have hsz:=HSz.out _ (List.getElem_mem hkl)
       have hmem:=HMem.out _ (List.getElem_mem hkl)
       have HEq:=Lib.hid (nmAt_eq hkl)
       have cs0:=hSA wr (Below.refl _ _)
       by_cases htlt:t<n
       ·have z14:(((n-t:Nat):Int)==0)=false:=beq_eq_false_iff_ne.2 (by omega)
        have z14b:¬(n-t=0):=by omega
        have hmodk:t%names.length=k:=by
         have:=hmod.out htlt
         rwa [Nat.mod_eq_of_lt hkl] at this
        obtain ⟨hff1,hff2,hff3⟩:=HFF.out (zcy names k) t htlt
        have hPass:=hP.out
        obtain ⟨hcn,hpass⟩:=hPass k hkl
        have hckn:cs k<n:=by
         rcases Nat.lt_or_ge (firstFree (zcy names k) n (tab names n t)) (cs k) with h|h
         ·exact absurd hff2 (hpass _ h)
         ·omega
        have hlk:=HL.out k hkl
        have HTk:=Lib.hid (HTab.out t (by omega))
        obtain ⟨ix,hix⟩:∃ix:Int,ix=idx l names[k]:=⟨_,rfl⟩
        have HIX2:Hid (∀W,Below w.heap.size w W→Calls Tryz.prog 124 #[.slice A l.length c,.string names[k]] W fun e w'=>e= .returned (.int .i64 ix)∧W=w'):=Lib.hid (by rw [hix];exact HIX.out _ hmem)
        have HIxE:Hid (idx l (zcy names k)=ix):=Lib.hid (by rw [hix,HEq.out])
        have HPass:Hid (∀i,i<cs k→Taken (tab names n t) (rowAt (zcy names k) n i)):=Lib.hid hpass
        have HFF2:Hid (¬Taken (tab names n t) (rowAt (zcy names k) n (firstFree (zcy names k) n (tab names n t)))):=Lib.hid fun h=>h hff2
        have HFF1:=Lib.hid hff1
        have HFA:=Lib.hid (fun c (h1:c<n) (h2:∀i,i<c→Taken (tab names n t) (rowAt (zcy names k) n i)) (h3:¬Taken (tab names n t) (rowAt (zcy names k) n c))=>firstFree_at (s:=zcy names k) (n:=n) (i:=c) (out:=tab names n t) h1 h2 (Classical.not_not.1 h3))
        have HPs:=Lib.hid (fun c (h1:c<n) (h2:firstFree (zcy names k) n (tab names n t)=c) (h3:∀i,i<c→Taken (tab names n t) (rowAt (zcy names k) n i))=>(show Passed names n (tab names n (t+1)) (fun x=>if x=k then c+1 else cs x) from by
         have:=Passed.turn (t:=t) (c:=c) hn hP.out h1 (by rw [hmodk];exact h2) (by rw [hmodk];exact h3)
         rwa [hmodk] at this))
        have HTN:=Lib.hid (fun c (h2:firstFree (zcy names k) n (tab names n t)=c)=>(show tab names n (t+1)=(tab names n t).set (rowAt (zcy names k) n c) ((k:Nat):Int) from by
         have:=tab_next (names:=names) (n:=n) (t:=t) (c:=c) (by rw [hmodk];exact h2)
         rwa [hmodk] at this))
        have hptr:=hS.out.ptr
        rw [HEq.out] at hlk
        obtain ⟨p0,w6,hp0,hpe0,HS1,HX1⟩:=mkst_next hS.out hkl hn hn5
        have HMod:=Lib.hid hmodk
        have HCk:=Lib.hid hckn
        clear hSA hff1 hff2 hff3 hPass hpass hP hmem hS hix hcn hckn hmodk hmod
        generalize names[k]=x at*
        go_wp2_with (first
         |(at_lookup
           go_must (refine wp_ptr_look rfl _ _ rfl rfl hptr x rfl hsz (gs k) hlk ?_))
         |fail)
        refine HX1.out.mono ?_
        rintro e w7 ⟨rfl,rfl⟩
        go_upto_block 6 with fail
        obtain ⟨wq,rfl⟩:∃wq:World,wq=wr:=⟨_,rfl⟩
        obtain ⟨g1,rfl⟩:∃g1:Nat,g1=gk:=⟨_,rfl⟩
        go_cut [17] (fun s17 wx=>∃c p:Nat,c<n∧p<n∧s17= .int .i64 (p:Int)∧Hid (p=rowAt (zcy names k) n c)∧Hid (MkSt wx w1 l names n w1.heap.size ob f gs (fun x=>if x=k then c+1 else cs x) (tab names n t))∧Hid (∀i,i<c→Taken (tab names n t) (rowAt (zcy names k) n i))∧Hid (¬Taken (tab names n t) (rowAt (zcy names k) n c)))
        case first=>
         go_wp2_with fail
         go_loopg [17] (n-cs k) (fun g kv wi=>∃c p:Nat,g+c=n∧c<n∧p<n∧kv= .int .i64 (p:Int)∧Hid (p=rowAt (zcy names k) n c)∧Hid (MkSt wi w1 l names n w1.heap.size ob f gs (fun x=>if x=k then c+1 else cs x) (tab names n t))∧Hid (∀i,i<c→Taken (tab names n t) (rowAt (zcy names k) n i)))
         case atStart=>exact ⟨cs k,p0,by have:=HCk.out;omega,HCk.out,hp0,rfl,hpe0,HS1,HPass⟩
         case round=>
          obtain ⟨c',p,hgc,hcn',hpn,rfl,hpe,hS2,hall⟩:=hrel
          obtain ⟨sv,hcell,_,hfr⟩:=mkst_load hS2.out HTk.out HMem.out hpn
          have hrc2:(p:Int)<n:=Int.ofNat_lt.2 hpn
          have hptr2:=hS2.out.ptr
          by_cases hfree:Taken (tab names n t) p
          case neg=>
           rw [decide_eq_false hfree] at hfr
           have HFr:Hid (¬Taken (tab names n t) (rowAt (zcy names k) n c')):=Lib.hid (by rw [←hpe.out];exact hfree)
           clear hfree hptr2
           go_wp2_with fail
           go_meet
           exact ⟨c',p,hcn',hpn,rfl,hpe,hS2,hall,HFr⟩
          case pos=>
           rw [decide_eq_true hfree] at hfr
           have hfree2:Taken (tab names n t) (rowAt (zcy names k) n c'):=by rw [←hpe.out];exact hfree
           have hlt3:c'+1<n:=by
            have h1:=HFF1.out
            rcases Nat.lt_trichotomy c' (firstFree (zcy names k) n (tab names n t)) with h|h|h
            ·omega
            ·exact absurd (by rw [←h];exact hfree2) HFF2.out
            ·exact absurd (hall.out _ h) HFF2.out
           have HA2:Hid (∀i,i<c'+1→Taken (tab names n t) (rowAt (zcy names k) n i)):=Lib.hid fun i hi=>by
            rcases Nat.lt_succ_iff_lt_or_eq.1 hi with h|rfl
            ·exact hall.out i h
            ·exact hfree2
           obtain ⟨p2,w8,hp2,hpe2,HS3,HX2⟩:=mkst_next hS2.out hkl hn hn5
           have HPe2:Hid (p2=rowAt (zcy names k) n (c'+1)):=Lib.hid (by have:=hpe2.out;simpa using this)
           have HS4:Hid (MkSt w8 w1 l names n w1.heap.size ob f gs (fun x=>if x=k then c'+1+1 else cs x) (tab names n t)):=Lib.hid (by
            have h3:=HS3.out
            have hfun:(fun x=>if x=k then (fun x=>if x=k then c'+1 else cs x) k+1 else (fun x=>if x=k then c'+1 else cs x) x)=(fun x=>if x=k then c'+1+1 else cs x):=by
             funext x
             by_cases hxk:x=k
             ·simp [hxk]
             ·simp [hxk]
            rwa [hfun] at h3)
           clear hall hfree hfree2 hS2 HS3 hpe2
           go_wp2_with (first
            |(at_lookup
              go_must (refine wp_ptr_look rfl _ _ rfl rfl hptr2 x rfl hsz (gs k) hlk ?_))
            |fail)
           refine HX2.out.mono ?_
           rintro e w9 ⟨rfl,rfl⟩
           go_wp2_with fail
           go_roundg (n- (c'+1))
           case rel=>exact ⟨c'+1,p2,by omega,hlt3,hp2,rfl,HPe2,HS4,HA2⟩
           case measure=>omega
        case rest=>
         obtain ⟨c',p,hcn',hpn,rfl,hpe,hS2,hall,hfree⟩:=hcut
         obtain ⟨sv,hcell,hfrz,_⟩:=mkst_load hS2.out HTk.out HMem.out hpn
         have hrc2:(p:Int)<n:=Int.ofNat_lt.2 hpn
         have hffc:=HFA.out c' hcn' hall.out hfree.out
         have HP2:=Lib.hid (HPs.out c' hcn' hffc hall.out)
         have HS3:Hid (MkSt (wc.setCell ⟨ob,p,none⟩ (.int .i64 ix)) w1 l names n w1.heap.size ob f gs (fun x=>if x=k then c'+1 else cs x) (tab names n (t+1))):=Lib.hid (by
          rw [HTN.out c' hffc,←hpe.out,←HIxE.out]
          exact hS2.out.put p k)
         have HIX3:=Lib.hid (HIX2.out wc (zaa hb1 hS2.out.low))
         have hmod2:Hid (t+1<n→(t+1)%names.length=(k+1)%names.length):=Lib.hid fun _=>by rw [←HMod.out,Nat.mod_add_mod]
         have HLf:Hid (((n-t:Nat):Int) -1=((n- (t+1):Nat):Int)):=Lib.hid (by omega)
         clear hall hfree hffc hS2 hpe
         go_wp2_with fail
         refine HIX3.out.mono ?_
         rintro e w8 ⟨rfl,rfl⟩
         go_wp2_with fail
         go_roundg (names.length- (k+1))
         case rel=>exact ⟨k+1,t+1,_,by omega,by omega,by omega,Lib.hid fun _=>by omega,by go_num,by first|rfl|(rw [HLf.out])|go_num,hmod2,HS3,HP2⟩
         case measure=>omega
       ·obtain rfl:t=n:=by omega
        have z14:(((t-t:Nat):Int)==0)=true:=beq_iff_eq.2 (by omega)
        clear hSA
        generalize names[k]=x at*
        go_wp2_with fail
        go_roundg 0
        case rel=>exact ⟨t,cs,by omega,rfl,Lib.hid fun h=>absurd h (by omega),hS,hP⟩
        case measure=>omega
      ·obtain rfl:k=names.length:=by omega
       have hge3:¬(names.length:Int)<names.length:=by omega
       go_wp2_with fail
       go_roundg (n-t)
       case rel=>exact ⟨t,cs,by omega,rfl,Lib.hid fun h=>by rw [hmod.out h,Nat.mod_self],hS,hP⟩
       case measure=>have:=hprog.out (by omega);omega
    ·obtain rfl:t0=n:=by omega
     have hge2:¬((t0-t0:Nat):Int)>0:=by omega
     have HF:=Lib.hid (HT.out ob _ wr rfl hS0.out.out (by have:=hS0.out.hob;have:=hb1.size;omega) (zaa hb1 hS0.out.low))
     go_wp2
     go_ret2
     exact HF.out
end Go.Proofs.YthkfhfldoniolaaGreatDoor
namespace Go.Proofs.YthkfhfldoniolaaGreatDoor
open Go.RowKit
def zah (l:List ByteArray) (n:Int):Option Flt:=if l.length=0 then some ⟨5,none⟩ else match zaf l with
 |some f=>some f
 |none=>zar n
structure zd4 (ea:Nat→Addr) (w:World):Prop where
 e3:zfo ea w
 z:ErrsZ ea w
 c5:w.cell? ⟨gv 5,0,none⟩=some (.iface 355 (.pointer (some (ea (gv 5)))))
theorem zd4.below {ea:Nat→Addr} {w w':World} (h:zd4 ea w) (hb:Below w.heap.size w w'):zd4 ea w':=
 ⟨h.e3.below hb,h.z.below hb,(hb.cell (lt_of_cell h.c5)).trans h.c5⟩
structure zcr (w:World) (A:Option Addr) (c:Nat) (l:List ByteArray):Prop where
 r:Reads w w.heap.size 1 A l.length (zak l)
 lc:l.length≤c
 lm:l.length≤maxLen
 s:∀s∈l,s.size≤maxLen
theorem zcr.below {w w':World} {A:Option Addr} {c:Nat} {l:List ByteArray} (h:zcr w A c l) (hb:Below w.heap.size w w'):zcr w' A c l:=
 ⟨(h.r.below hb).more hb.size,h.lc,h.lm,h.s⟩
set_option maxRecDepth 100000 in
theorem make_bad (ea:Nat→Addr) (A:Option Addr) (c:Nat) (l:List ByteArray) (n:Int) (f:Flt) (w:World) (hE:zd4 ea w) (hI:zcr w A c l) (hf:zah l n=some f):
 Calls Tryz.prog 73 #[.slice A l.length c,.int .i64 n] w (zcC ea f w):=by
 have hlm:=hI.lm
 unfold maxLen at hlm
 unfold zah at hf
 by_cases h0:l.length=0
 ·rw [if_pos h0] at hf
  obtain rfl:=Option.some.inj hf
  have z0:((l.length:Int)==0)=true:=beq_iff_eq.2 (by omega)
  have z1:l=[]:=List.eq_nil_of_length_eq_zero h0
  have c5:=hE.c5
  dsimp only [gv] at c5
  subst z1
  clear hE hI h0 hf
  go_enter Tryz.func73,Tryz.ntmps73
  go_wp2
  go_quiet (fail)
  go_wp2
  go_ret2
  exact ⟨_,_,rfl,⟨rfl,rfl⟩,below_drewN (Below.refl _ _) _⟩
 rw [if_neg h0] at hf
 have z0:((l.length:Int)==0)=false:=beq_eq_false_iff_ne.2 (by omega)
 have z1:¬l=[]:=fun e=>by simp [e] at h0
 cases ho:zaf l with
 |some g=>
  rw [ho] at hf
  obtain rfl:=Option.some.inj hf
  have HS:=Lib.hid (zfT ea A c l g w hE.e3 hI.r hI.lc hI.lm hI.s ho)
  clear hE hI h0 hf ho
  go_enter Tryz.func73,Tryz.ntmps73
  go_wp2_with fail
  refine HS.out.mono ?_
  rintro e w1 ⟨t,a,rfl,hX,hb1⟩
  go_wp2
  go_ret2
  exact ⟨t,a,rfl,hX,hb1⟩
 |none=>
  rw [ho] at hf
  have hpl:f.place=none:=by
   have hf2:zar n=some f:=hf
   unfold zar at hf2
   split at hf2
   ·obtain rfl:=Option.some.inj hf2;rfl
   ·split at hf2
    ·cases hf2
    ·obtain rfl:=Option.some.inj hf2;rfl
  have HS:=Lib.hid (zes ea A c l w hE.e3 hI.r hI.lc hI.lm hI.s ho)
  have HZ:Hid (∀W,Below w.heap.size w W→Calls Tryz.prog 120 #[.int .i64 n] W fun e w'=>e= .returned (.iface 355 (.pointer (some (ea (gv f.code)))))∧W=w'):=Lib.hid fun W hW=>by
   have:=size_any ea n W (hE.z.below hW)
   unfold zd0 at this
   rw [show zar n=some f from hf] at this
   exact this
  have HX:Hid (∀W,zd9 ea W f 355 (ea (gv f.code))):=Lib.hid fun W=>by unfold zd9;rw [hpl];exact ⟨rfl,rfl⟩
  generalize ea (gv f.code)=ad at*
  clear hE hI h0 hf ho
  go_enter Tryz.func73,Tryz.ntmps73
  go_wp2_with fail
  refine HS.out.mono ?_
  rintro e w1 ⟨A1,c1,rfl,_,hb1⟩
  go_wp2_with fail
  refine (HZ.out _ hb1).mono ?_
  rintro e w2 ⟨rfl,rfl⟩
  go_wp2
  go_ret2
  exact ⟨_,_,rfl,HX.out _,hb1⟩
theorem zaG {l:List ByteArray} {n:Int} (h:zah l n=none):0<l.length∧zaf l=none∧∃k:Nat,n=(k:Int)∧2≤k∧k≤503∧zdV k:=by
 unfold zah at h
 split at h
 ·cases h
 ·split at h
  ·cases h
  ·rename_i h1 _ h2
   exact ⟨by omega,h2,sizeFault_none h⟩
theorem make_good (ea:Nat→Addr) (A:Option Addr) (c:Nat) (l:List ByteArray) (n:Nat) (w:World) (hE:zd4 ea w) (hI:zcr w A c l) (hf:zah l (n:Int)=none):
 Calls Tryz.prog 73 #[.slice A l.length c,.int .i64 (n:Int)] w (zdW l n w):=by
 obtain ⟨h0,ho,k,hk,h2,h5,hd⟩:=zaG hf
 obtain rfl:n=k:=by omega
 exact make_ok ea A c l n w hE.e3 hE.z hI.r hI.lc hI.lm hI.s h0 ho h2 h5 hd
end Go.Proofs.YthkfhfldoniolaaGreatDoor
namespace Go.Proofs.YthkfhfldoniolaaGreatDoor
open Go.RowKit
theorem zbq {w:World} {g:Nat} {T:TypeId} {cs:List Value} (h:Blk w g T cs.toArray):Reads w w.heap.size 1 (some ⟨g,0,none⟩) cs.length cs:=by
 refine ⟨by simp,fun _=>⟨_,rfl,h.lt,fun j u hu=> ?_⟩⟩
 have e:((⟨g,0,none⟩:Addr).add j)=⟨g,j,none⟩:=by
  by_cases h0:j=0
  ·subst h0;rfl
  ·simp [Addr.add,h0]
 rw [e,h.cell j]
 simpa using hu
def za2 (l:List ByteArray) (n:Nat):List Int:=(table (za6 l) n).map (slotI l (za6 l))
theorem zdm (l:List ByteArray) (n:Nat):tableOf l n=(za2 l n).map intV:=by
 unfold tableOf outV za2
 rw [List.map_map];rfl
theorem zbB (l:List ByteArray) (n:Nat):(za2 l n).length=n:=by simp [za2,table,zeK]
theorem ze2 (l:List ByteArray) (n:Nat):(tableOf l n).length=n:=by rw [zdm];simp [zbB]
theorem intsI_at {w:World} {A:Option Addr} {l:List Int} {k:Nat} (h:Reads w w.heap.size 1 A l.length (l.map intV)) (hk:k<l.length):∃ad,A=some ad∧∀W,Below w.heap.size w W→W.cell? (ad.add k)=some (.int .i64 l[k]):=by
 obtain ⟨ad,u,hA,hb,hx,hc⟩:=h.at_ hk
 refine ⟨ad,hA,fun W hW=> ?_⟩
 rw [hW.cell (by rw [zaN];exact hb),hc]
 simp [intV,hk] at hx
 rw [hx]
end Go.Proofs.YthkfhfldoniolaaGreatDoor
namespace Go.Proofs.YthkfhfldoniolaaGreatDoor
open Go.RowKit
end Go.Proofs.YthkfhfldoniolaaGreatDoor
namespace Go.Proofs.YthkfhfldoniolaaGreatDoor
open Go.RowKit
def zbn (l:List ByteArray) (n i:Nat):ByteArray:=zcy (za6 l) ((table (za6 l) n).getD i 0).toNat
theorem slot_host {l:List ByteArray} {v:Int} (h0:0≤v) (h1:v<l.length):∃j:Nat,slotI l (za6 l) v=(j:Int)∧j<l.length∧l[j]? =some (zcy (za6 l) v.toNat):=by
 have hl:v.toNat<(za6 l).length:=by rw [zcd];omega
 have hm:zcy (za6 l) v.toNat∈l:=by
  rw [nmAt_eq hl]
  exact (zbR l).1.mem_iff.1 (List.getElem_mem hl)
 obtain ⟨j,hj,hi,he⟩:=zc4 hm
 refine ⟨j, ?_,hj,he⟩
 unfold slotI
 rw [if_neg (by omega),hi]
theorem zeG {l:List ByteArray} {n i:Nat} (h0:0<l.length) (hn:2≤n) (hd:zdV n) (hi:i<n):∃j:Nat,(za2 l n)[i]? =some (j:Int)∧j<l.length∧l[j]? =some (zbn l n i):=by
 have hf:=table_full (names:=za6 l) (n:=n) (by rw [zcd];exact h0) hn hd
 have hl:i<(table (za6 l) n).length:=by unfold table;rw [zeK];exact hi
 have hv:=hf _ (List.getElem_mem hl)
 rw [zcd] at hv
 obtain ⟨j,h1,h2,h3⟩:=slot_host hv.1 hv.2
 refine ⟨j, ?_,h2, ?_⟩
 ·unfold za2
  rw [List.getElem?_map,List.getElem?_eq_getElem hl,Option.map_some,h1]
 ·unfold zbn
  rw [List.getD_eq_getElem?_getD,List.getElem?_eq_getElem hl];exact h3
end Go.Proofs.YthkfhfldoniolaaGreatDoor
