/-
  A line of a script, as a statement's input names it, in plain words. hello's script in plain words. Scripts in plain words: what stands behind so many lines; no answer is empty. The law's hello: a script of some commands. The law's formOf, errorText, orElse, joined.
-/
import Derived.Test.YthkfhfldoniolaaGreatDoorScrRun
import Derived.Test.YthkfhfldoniolaaGreatDoorRefFault
set_option maxHeartbeats 1000000
namespace Go.Proofs.YthkfhfldoniolaaGreatDoor
open Go.RowKit
def zcx (c:ByteArray):Option (Int×Nat):=
 if c=zav then some (-1,0) else if c=zco then some (-1,1)
 else if c=cmTable∨c=cmRival∨c=zfU∨c=cmTick then some (0,1)
 else if c=cmRing∨c=zaP then some (0,2)
 else if c=cmLook∨c=zeo then some (1,1)
 else if c=cmUp∨c=zez∨c=zds then some (0,0) else none
def zas (ws:List (List UInt8)):List UInt8:=ws.flatMap fun x=>32::x
def zdK (N:List Int):List (List UInt8):=N.map fun v=>Lib.decDigits v.toNat
def zb0 (H:List ByteArray):List (List UInt8):=H.map fun x=>x.data.toList
def zeX (h:Int) (n:Nat) (H:List ByteArray) (N:List Int):Bool:=decide (N.length=n)&&(if h<0 then decide (0<H.length) else decide ((H.length:Int)=h))
def zb1 (h v:Int):Bool:=decide (0≤v)&&decide (v≤9999999)&& !(decide (h=1)&&decide (1<v))
def zbl (c:ByteArray) (H:List ByteArray) (N:List Int):List (List UInt8):=if c=zco then zdK N++zb0 H else zb0 H++zdK N
def zcW (c:ByteArray) (H:List ByteArray) (N:List Int):Option ByteArray:=match zcx c with
 |none=>none
 |some (h,n)=>if zeX h n H N=true∧H.all isName=true∧N.all (zb1 h)=true then some (bt (c.data.toList++zas (zbl c H N))) else none
theorem cuts_spaced:∀(ws:List (List UInt8)) (a:List UInt8),32∉a→(∀x∈ws,32∉x)→cuts 32 (a++zas ws)=a::ws
 |[],a,h,_=>by
  simp only [zas,List.flatMap_nil,List.append_nil]
  exact zfN 32 a h
 |x::ws,a,h,hw=>by
  have e:zas (x::ws)=32::(x++zas ws):=by simp [zas]
  rw [e,zda 32 _ _ h,cuts_spaced ws x (hw x List.mem_cons_self) fun y hy=>hw y (List.mem_cons_of_mem _ hy)]
theorem name_blank {x:ByteArray} (h:isName x=true):32∉x.data.toList:=by
 intro hm
 unfold isName at h
 simp only [Bool.and_eq_true,Bool.not_eq_true',List.any_eq_false] at h
 have h2:=h.2 32 (List.mem_map.2 ⟨32,hm,rfl⟩)
 revert h2
 decide
theorem digits_blank (n:Nat):32∉Lib.decDigits n:=fun h=>by
 have:=(dec_byte n 32 h).1
 revert this
 decide
theorem wordsT_blank {c:ByteArray} {H:List ByteArray} {N:List Int} (h:H.all isName=true):∀x∈zbl c H N,32∉x:=by
 have h1:∀x∈zb0 H,32∉x:=fun x hx=>by
  obtain ⟨y,hy,rfl⟩:=List.mem_map.1 hx
  exact name_blank (List.all_eq_true.1 h y hy)
 have h2:∀x∈zdK N,32∉x:=fun x hx=>by
  obtain ⟨y,hy,rfl⟩:=List.mem_map.1 hx
  exact digits_blank _
 intro x hx
 unfold zbl at hx
 split at hx
 ·exact (List.mem_append.1 hx).elim (h2 x) (h1 x)
 ·exact (List.mem_append.1 hx).elim (h1 x) (h2 x)
theorem bt_data (x:ByteArray):bt x.data.toList=x:=by cases x;simp [bt]
theorem map_hostWs (H:List ByteArray):(zb0 H).map bt=H:=by
 unfold zb0
 rw [List.map_map]
 conv=>rhs;rw [←List.map_id H]
 exact List.map_congr_left fun x _=>bt_data x
theorem form_blank {c:ByteArray} {f:Int×Nat} (h:zcx c=some f):32∉c.data.toList:=by
 unfold zcx at h
 split at h
 ·rename_i e;subst e;decide
 split at h
 ·rename_i e;subst e;decide
 split at h
 ·rename_i e;rcases e with rfl|rfl|rfl|rfl<;>decide
 split at h
 ·rename_i e;rcases e with rfl|rfl<;>decide
 split at h
 ·rename_i e;rcases e with rfl|rfl<;>decide
 split at h
 ·rename_i e;rcases e with rfl|rfl|rfl<;>decide
 ·cases h
theorem wordsOf_lineT {c s:ByteArray} {H:List ByteArray} {N:List Int} (h:zcW c H N=some s):zaI s=c::(zbl c H N).map bt:=by
 unfold zcW at h
 split at h
 ·cases h
 ·rename_i f n hf
  split at h
  ·rename_i hc
   obtain rfl:=Option.some.inj h
   unfold zaI
   rw [show (bt (c.data.toList++zas (zbl c H N))).data.toList=c.data.toList++zas (zbl c H N) by simp [bt],cuts_spaced _ _ (form_blank hf) (wordsT_blank hc.2.1),List.map_cons,bt_data]
  ·cases h
theorem bt_num (n:Nat):numS (bt (Lib.decDigits n)).data.toList=numS (Lib.decDigits n):=by simp [bt]
theorem readS_of_n {a:Nat} (ha:a≤9999999):zaY [110] [bt (Lib.decDigits a)]=some ⟨[],[a]⟩:=by
 unfold zaY zba
 rw [if_neg (by decide),if_neg (by decide),bt_num,zdb a ha]
 unfold zba
 rfl
theorem readS_of_nn {a b:Nat} (ha:a≤9999999) (hb:b≤9999999):zaY [110,110] [bt (Lib.decDigits a),bt (Lib.decDigits b)]=some ⟨[],[a,b]⟩:=by
 unfold zaY zba
 rw [if_neg (by decide),if_neg (by decide),bt_num,zdb a ha]
 unfold zba
 dsimp only
 rw [if_neg (by decide),if_neg (by decide),bt_num,zdb b hb]
 unfold zba
 rfl
theorem readS_of_hn {x:ByteArray} {a:Nat} (hx:isName x=true) (ha:a≤9999999):zaY [104,110] [x,bt (Lib.decDigits a)]=some ⟨[x],[a]⟩:=by
 unfold zaY zba
 rw [if_neg (by decide),if_pos rfl]
 unfold zba
 rw [if_neg (by decide),if_neg (by decide),bt_num,zdb a ha]
 unfold zba
 simp [hx]
theorem readS_of_p {H:List ByteArray} (h0:0<H.length) (h:H.all isName=true):zaY [43] H=some ⟨H,[]⟩:=by
 cases H with
 |nil=>simp at h0
 |cons x r=>
  unfold zaY zba
  rw [if_pos ⟨rfl,rfl⟩]
  dsimp only
  rw [if_pos h]
theorem readS_of_np {H:List ByteArray} {a:Nat} (h0:0<H.length) (h:H.all isName=true) (ha:a≤9999999):zaY [110,43] (bt (Lib.decDigits a)::H)=some ⟨H,[a]⟩:=by
 cases H with
 |nil=>simp at h0
 |cons x r=>
  unfold zaY zba
  rw [if_neg (by decide),if_neg (by decide),bt_num,zdb a ha]
  unfold zba
  dsimp only
  rw [if_pos ⟨rfl,rfl⟩]
  dsimp only
  rw [if_pos h]
  rfl
noncomputable def zf3 (s:PlS) (c:ByteArray) (H:List ByteArray) (n:List Nat):(Nat×ByteArray)×PlS:=
 if c=zav then zbt s H
 else if c=zaP then (zdv ⟨H,n⟩,s)
 else match zfV c with
  |none=>((1,⟨#[]⟩),s)
  |some k=>match s.b with
   |none=>((5,⟨#[]⟩),s)
   |some hb=>zaJ k ⟨H,n⟩ hb.1 hb.2 s.now
theorem lineK_cmd {s:PlS} {c:ByteArray} {q:Cmd} {H:List ByteArray} {n:List Nat} (n1:c≠zav) (n2:c≠zaP) (hc:zfV c=some q):zf3 s c H n=match s.b with
 |none=>((5,⟨#[]⟩),s)
 |some hb=>zaJ q ⟨H,n⟩ hb.1 hb.2 s.now:=by
 unfold zf3
 rw [if_neg n1,if_neg n2,hc]
theorem zdA {s:PlS} {c:ByteArray} {q:Cmd} {t:List ByteArray} {H:List ByteArray} {n:List Nat} (n1:c≠zav) (n2:c≠zaP) (hc:zfV c=some q) (hr:zaY q.form t=some ⟨H,n⟩) (hn:¬(q.form=[104,110]∧1<n.getD 0 0)):zch s c t=zf3 s c H n:=by
 rw [zeq n1 n2 hc,lineK_cmd n1 n2 hc,hr]
 refine (if_neg hn).trans ?_
 cases s.b<;>rfl
theorem fits_neg {h:Int} {n:Nat} {H:List ByteArray} {N:List Int} (hh:h<0) (hf:zeX h n H N=true):N.length=n∧0<H.length:=by
 unfold zeX at hf
 rw [if_pos hh] at hf
 simpa using hf
theorem zdo {h:Int} {n:Nat} {H:List ByteArray} {N:List Int} (hh:¬h<0) (hf:zeX h n H N=true):N.length=n∧(H.length:Int)=h:=by
 unfold zeX at hf
 rw [if_neg hh] at hf
 simpa using hf
theorem zev {α:Type} {l:List α} (h:l.length=1):∃a,l=[a]:=List.length_eq_one_iff.1 h
theorem len_two {α:Type} {l:List α} (h:l.length=2):∃a b,l=[a,b]:=by
 rcases l with _|⟨a,_|⟨b,_|⟨d,r⟩⟩⟩<;>simp at h
 exact ⟨a,b,rfl⟩
theorem zb3 {h v:Int} (hv:zb1 h v=true):0≤v∧v≤9999999∧(h=1→v≤1):=by
 unfold zb1 at hv
 simp only [Bool.and_eq_true,decide_eq_true_eq,Bool.not_eq_true',Bool.and_eq_false_iff,decide_eq_false_iff_not] at hv
 refine ⟨hv.1.1,hv.1.2,fun e=> ?_⟩
 rcases hv.2 with h1|h1
 ·exact absurd e h1
 ·omega
theorem line_n {s:PlS} {c:ByteArray} {q:Cmd} {N:List Int} {H:List ByteArray} (n1:c≠zav) (n2:c≠zaP) (n3:c≠zco) (hc:zfV c=some q) (hq:q.form=[110]) (hf:zeX 0 1 H N=true) (hn:N.all (zb1 0)=true):zch s c ((zbl c H N).map bt)=zf3 s c H (N.map Int.toNat):=by
 obtain ⟨e1,e2⟩:=zdo (by omega) hf
 obtain ⟨a,rfl⟩:=zev e1
 obtain rfl:H=[]:=List.eq_nil_of_length_eq_zero (by omega)
 have ha:=zb3 (List.all_eq_true.1 hn a List.mem_cons_self)
 refine zdA n1 n2 hc ?_ (by rw [hq];exact fun h=>absurd h.1 (by decide))
 rw [hq]
 unfold zbl
 rw [if_neg n3]
 exact readS_of_n (by omega)
theorem line_hn {s:PlS} {c:ByteArray} {q:Cmd} {N:List Int} {H:List ByteArray} (n1:c≠zav) (n2:c≠zaP) (n3:c≠zco) (hc:zfV c=some q) (hq:q.form=[104,110]) (hf:zeX 1 1 H N=true) (ha:H.all isName=true) (hn:N.all (zb1 1)=true):zch s c ((zbl c H N).map bt)=zf3 s c H (N.map Int.toNat):=by
 obtain ⟨e1,e2⟩:=zdo (by omega) hf
 obtain ⟨a,rfl⟩:=zev e1
 obtain ⟨x,rfl⟩:=zev (l:=H) (by omega)
 have hv:=zb3 (List.all_eq_true.1 hn a List.mem_cons_self)
 have:=hv.2.2 rfl
 refine zdA n1 n2 hc ?_ (fun h=>by
  have h2:=h.2
  simp only [List.map_cons,List.map_nil,List.getD_cons_zero] at h2
  omega)
 rw [hq]
 unfold zbl
 rw [if_neg n3]
 have e:(zb0 [x]++zdK [a]).map bt=[x,bt (Lib.decDigits a.toNat)]:=by
  rw [List.map_append,map_hostWs];rfl
 rw [e]
 exact readS_of_hn (List.all_eq_true.1 ha x List.mem_cons_self) (by omega)
theorem line_none {s:PlS} {c:ByteArray} {q:Cmd} {N:List Int} {H:List ByteArray} (n1:c≠zav) (n2:c≠zaP) (n3:c≠zco) (hc:zfV c=some q) (hq:q.form=[]) (hf:zeX 0 0 H N=true):zch s c ((zbl c H N).map bt)=zf3 s c H (N.map Int.toNat):=by
 obtain ⟨e1,e2⟩:=zdo (by omega) hf
 obtain rfl:N=[]:=List.eq_nil_of_length_eq_zero e1
 obtain rfl:H=[]:=List.eq_nil_of_length_eq_zero (by omega)
 refine zdA n1 n2 hc ?_ (by rw [hq];exact fun h=>absurd h.1 (by decide))
 rw [hq]
 unfold zbl
 rw [if_neg n3]
 rfl
theorem playS_lineT {s:PlS} {c t:ByteArray} {H:List ByteArray} {N:List Int} (h:zcW c H N=some t):zcu s t=zf3 s c H (N.map Int.toNat):=by
 have hw:=wordsOf_lineT h
 have e:zcu s t=zch s c ((zbl c H N).map bt):=by unfold zcu;rw [hw];rfl
 rw [e]
 unfold zcW at h
 split at h
 ·cases h
 rename_i f n hf
 split at h
 case isFalse=>cases h
 rename_i hc
 obtain ⟨h1,h2,h3⟩:=hc
 clear h e hw
 unfold zcx at hf
 split at hf
 ·rename_i e
  subst e
  cases hf
  obtain ⟨e1,e2⟩:=fits_neg (by omega) h1
  obtain rfl:N=[]:=List.eq_nil_of_length_eq_zero e1
  unfold zch zf3
  rw [if_pos rfl,if_pos rfl]
  have:(zbl zav H []).map bt=H:=by
   unfold zbl
   rw [if_neg (by decide),show zdK []=[] from rfl,List.append_nil,map_hostWs]
  rw [this,readS_of_p e2 h2]
 rename_i g1
 split at hf
 ·rename_i e
  subst e
  cases hf
  obtain ⟨e1,e2⟩:=fits_neg (by omega) h1
  obtain ⟨a,rfl⟩:=zev e1
  have ha:=zb3 (List.all_eq_true.1 h3 a List.mem_cons_self)
  refine zdA (q:= .moves) (by decide) (by decide) (by decide) ?_ (fun h=>absurd h.1 (by decide))
  have:(zbl zco H [a]).map bt=bt (Lib.decDigits a.toNat)::H:=by
   unfold zbl
   rw [if_pos rfl,List.map_append,map_hostWs]
   rfl
  rw [this]
  exact readS_of_np e2 h2 (by omega)
 rename_i g2
 split at hf
 ·rename_i e
  cases hf
  rcases e with rfl|rfl|rfl|rfl
  ·exact line_n (q:= .table) (by decide) (by decide) (by decide) (by decide) rfl h1 h3
  ·exact line_n (q:= .rival) (by decide) (by decide) (by decide) (by decide) rfl h1 h3
  ·exact line_n (q:= .pick) (by decide) (by decide) (by decide) (by decide) rfl h1 h3
  ·exact line_n (q:= .tick) (by decide) (by decide) (by decide) (by decide) rfl h1 h3
 split at hf
 ·rename_i e
  cases hf
  obtain ⟨e1,e2⟩:=zdo (by omega) h1
  obtain ⟨a,b,rfl⟩:=len_two e1
  obtain rfl:H=[]:=List.eq_nil_of_length_eq_zero (by omega)
  have ha:=zb3 (List.all_eq_true.1 h3 a List.mem_cons_self)
  have hb:=zb3 (List.all_eq_true.1 h3 b (by simp))
  have hr:=readS_of_nn (a:=a.toNat) (b:=b.toNat) (by omega) (by omega)
  rcases e with rfl|rfl
  ·refine zdA (q:= .ring) (by decide) (by decide) (by decide) ?_ (by show¬(Cmd.form .ring=_∧_);exact fun h=>absurd h.1 (by decide))
   exact hr
  ·unfold zch zf3
   rw [if_neg (by decide),if_pos rfl,if_neg (by decide),if_pos rfl]
   show (match zaY [110,110] [bt (Lib.decDigits a.toNat),bt (Lib.decDigits b.toNat)] with|none=>_|some w=>_)=_
   rw [hr]
   rfl
 split at hf
 ·rename_i e
  cases hf
  rcases e with rfl|rfl
  ·exact line_hn (q:= .look) (by decide) (by decide) (by decide) (by decide) rfl h1 h2 h3
  ·exact line_hn (q:= .drain) (by decide) (by decide) (by decide) (by decide) rfl h1 h2 h3
 split at hf
 ·rename_i e
  cases hf
  rcases e with rfl|rfl|rfl
  ·exact line_none (q:= .up) (by decide) (by decide) (by decide) (by decide) rfl h1
  ·exact line_none (q:= .flows) (by decide) (by decide) (by decide) (by decide) rfl h1
  ·exact line_none (q:= .exprt) (by decide) (by decide) (by decide) (by decide) rfl h1
 ·cases hf
theorem zf7 (l:List UInt8):(bt l).size=l.length:=by simp [bt,ByteArray.size]
theorem zeQ:∀(ws:List (List UInt8)) (m:Nat),(∀x∈ws,x.length≤m)→(zas ws).length≤ws.length*(m+1)
 |[],_,_=>by simp [zas]
 |x::ws,m,h=>by
  have h1:=zeQ ws m fun y hy=>h y (List.mem_cons_of_mem _ hy)
  have h2:=h x List.mem_cons_self
  have e:zas (x::ws)=32::(x++zas ws):=by simp [zas]
  rw [e]
  simp only [List.length_cons,List.length_append,Nat.add_mul,Nat.one_mul]
  omega
theorem lineT_small {c t:ByteArray} {H:List ByteArray} {N:List Int} (h:zcW c H N=some t) (hc:c.size≤60) (hH:H.length≤30) (hN:N.length≤5):t.size≤100000:=by
 unfold zcW at h
 split at h
 ·cases h
 rename_i f n hf
 split at h
 case isFalse=>cases h
 rename_i hk
 obtain rfl:=Option.some.inj h
 have h1:∀x∈zbl c H N,x.length≤20:=by
  have a:∀x∈zb0 H,x.length≤20:=fun x hx=>by
   obtain ⟨y,hy,rfl⟩:=List.mem_map.1 hx
   have:=zeT (List.all_eq_true.1 hk.2.1 y hy)
   show y.data.toList.length≤20
   have e:y.data.toList.length=y.size:=by simp
   omega
  have b:∀x∈zdK N,x.length≤20:=fun x hx=>by
   obtain ⟨y,hy,rfl⟩:=List.mem_map.1 hx
   have:=zb3 (List.all_eq_true.1 hk.2.2 y hy)
   exact zb9 (by unfold U64;omega)
  intro x hx
  unfold zbl at hx
  split at hx
  ·exact (List.mem_append.1 hx).elim (b x) (a x)
  ·exact (List.mem_append.1 hx).elim (a x) (b x)
 have h2:(zbl c H N).length≤35:=by
  unfold zbl zb0 zdK
  split<;>simp<;>omega
 have h3:=zeQ _ 20 h1
 have h4:(bt (c.data.toList++zas (zbl c H N))).size=c.size+(zas (zbl c H N)).length:=by
  rw [zf7,List.length_append]
  congr 1
 rw [h4]
 have:(zbl c H N).length*(20+1)≤35*21:=Nat.mul_le_mul_right 21 h2
 omega
end Go.Proofs.YthkfhfldoniolaaGreatDoor
namespace Go.Proofs.YthkfhfldoniolaaGreatDoor
open Go.RowKit
def sX:ByteArray:=bt [120]
def helloL:List ByteArray:=[bt [117,112],bt [104,111,115,116,115,32,120],bt [112,105,99,107,32,53],bt [112,105,99,107,32,53],bt [117,112]]
def helloA:List ByteArray:=[bt [108,101,118,101,108,104,97,110,100,58,32,110,111,110,101],bt [111,107],bt [120,32,110,101,119],bt [120,32,107,101,112,116],bt [120]]
theorem fault_X:zaf [sX]=none:=zal.2 ⟨by decide,by decide+kernel,by decide+kernel⟩
theorem ok_X:BOk (cS [sX]):=⟨fault_X,by decide,size_ok fault_X (by decide) (size_prime (by decide) (by decide) (by decide+kernel)),by decide,by decide,by decide,by decide,by decide,by decide⟩
theorem playS_of {s:PlS} {line c:ByteArray} {t:List ByteArray} (h:zaI line=c::t):zcu s line=zch s c t:=by
 unfold zcu
 rw [h]
 rfl
theorem hello_up0:zcu ⟨none,0⟩ (bt [117,112])=((5,⟨#[]⟩),⟨none,0⟩):=by
 rw [playS_of (c:=cmUp) (t:=[]) (by decide+kernel),zeq (q:= .up) (by decide+kernel) (by decide+kernel) (by decide+kernel)]
 rfl
theorem hello_hosts:zcu ⟨none,0⟩ (bt [104,111,115,116,115,32,120])=((0,sOk),⟨some ([sX],newS (cS [sX])),0⟩):=by
 rw [playS_of (c:=zav) (t:=[sX]) (by decide+kernel)]
 unfold zch
 rw [if_pos rfl,show zaY [43] [sX]=some ⟨[sX],[]⟩ from rfl]
 show zbt ⟨none,0⟩ [sX]=_
 unfold zbt zaM
 rw [if_neg (by simp),fault_X]
theorem hello_line (s:BS):zcu ⟨some ([sX],s),0⟩ (bt [112,105,99,107,32,53])=zaJ .pick ⟨[],[5]⟩ [sX] s 0:=by
 rw [playS_of (c:=zfU) (t:=[bt [53]]) (by decide+kernel),zeq (q:= .pick) (by decide+kernel) (by decide+kernel) (by decide+kernel)]
 rw [show bt [53]=bt (Lib.decDigits 5) by rw [Lib.decDigits_one (by omega)];rfl,show zaY Cmd.pick.form [bt (Lib.decDigits 5)]=some ⟨[],[5]⟩ from readS_of_n (by omega)]
 dsimp only
 rw [if_neg (by decide)]
theorem hello_up (s:BS):zcu ⟨some ([sX],s),0⟩ (bt [117,112])=((0,zbA (ups s.st) [32]),⟨some ([sX],s),0⟩):=by
 rw [playS_of (c:=cmUp) (t:=[]) (by decide+kernel),zeq (q:= .up) (by decide+kernel) (by decide+kernel) (by decide+kernel)]
 rfl
theorem hello_picks:∃s1 s2:BS,zbz (cS [sX]) (newS (cS [sX])) 5 0=((sX,false,0),s1)∧zbz (cS [sX]) s1 5 0=((sX,true,0),s2)∧s2.st=fresh [sX]:=by
 have ho:zaj (newS (cS [sX]))≠[]:=by rw [openOf_new];simp [cS]
 have htf:zah (zaj (newS (cS [sX]))) ((cS [sX]).size:Int)=none:=by rw [openOf_new];exact ok_X.tf
 obtain ⟨x,kept,h1,h2⟩:=pickS_step (c:=cS [sX]) (s:=newS (cS [sX])) (k:=5) (n:=0) (Nat.le_refl _) (by decide) ho htf (by decide)
 have hx:kept=false∧x=sX:=by
  rcases h2 with ⟨_,y,hy,_⟩|⟨hk,hm,_⟩
  ·cases hy
  ·rw [openOf_new] at hm
   exact ⟨hk,by simpa [cS] using hm⟩
 obtain ⟨rfl,rfl⟩:=hx
 have e1:zeg (newS (cS [sX])).fs.2 ⟨5,sX,((0:Nat):Int)+(cS [sX]).time⟩=[⟨5,sX,20⟩]:=rfl
 rw [e1] at h1
 obtain ⟨x2,kept2,g1,g2⟩:=pickS_step (c:=cS [sX]) (s:={ newS (cS [sX]) with fs:=(0,[⟨5,sX,20⟩]) }) (k:=5) (n:=0) (by dsimp only;omega) (by decide) ho htf (by decide)
 have hx2:kept2=true∧x2=sX:=by
  rcases g2 with ⟨hk,y,hy,_,he,_⟩|⟨_,_,hno⟩
  ·obtain rfl:=Option.some.inj hy
   exact ⟨hk,he.symm⟩
  ·exact absurd ⟨by dsimp only;omega,upOf_fresh (by simp [cS])⟩ (hno ⟨5,sX,20⟩ rfl)
 obtain ⟨rfl,rfl⟩:=hx2
 exact ⟨_,_,h1,g1,rfl⟩
theorem hello_plain:(zcH helloL).1=helloA:=by
 obtain ⟨s1,s2,h1,h2,h3⟩:=hello_picks
 have p1:zaJ .pick ⟨[],[5]⟩ [sX] (newS (cS [sX])) 0=((0,bt [120,32,110,101,119]),⟨some ([sX],s1),0⟩):=by
  show (((zbz (cS [sX]) (newS (cS [sX])) 5 0).1.2.2,bt ((zbz (cS [sX]) (newS (cS [sX])) 5 0).1.1.data.toList++if (zbz (cS [sX]) (newS (cS [sX])) 5 0).1.2.1=true then [32,107,101,112,116] else [32,110,101,119])),(⟨some ([sX],(zbz (cS [sX]) (newS (cS [sX])) 5 0).2),0⟩:PlS))=_
  rw [h1]
  rfl
 have p2:zaJ .pick ⟨[],[5]⟩ [sX] s1 0=((0,bt [120,32,107,101,112,116]),⟨some ([sX],s2),0⟩):=by
  show (((zbz (cS [sX]) s1 5 0).1.2.2,bt ((zbz (cS [sX]) s1 5 0).1.1.data.toList++if (zbz (cS [sX]) s1 5 0).1.2.1=true then [32,107,101,112,116] else [32,110,101,119])),(⟨some ([sX],(zbz (cS [sX]) s1 5 0).2),0⟩:PlS))=_
  rw [h2]
  rfl
 unfold zcH helloL
 simp only [List.foldl_cons,List.foldl_nil,scrStep,hello_up0,hello_hosts,hello_line,p1,p2,hello_up,h3,ups_fresh,List.nil_append]
 decide+kernel
end Go.Proofs.YthkfhfldoniolaaGreatDoor
namespace Go.Proofs.YthkfhfldoniolaaGreatDoor
open Go.RowKit
theorem rep_one (c:UInt8) (new:List UInt8):∀s:List UInt8,Lib.replaceK [c] new (Lib.count s [c]) s=s.flatMap fun x=>if x=c then new else [x]
 |[]=>by rw [Lib.count_one];rfl
 |x::r=>by
  have ih:=rep_one c new r
  by_cases hx:x=c
  ·subst hx
   rw [Lib.count_cons_eq,Nat.add_comm,Lib.replaceK_hit [x] new _ (x::r) 0 (by simp [Lib.index])]
   simp only [List.take_zero,List.nil_append,Nat.zero_add,List.length_singleton,List.drop_succ_cons,List.drop_zero,List.flatMap_cons,if_true]
   rw [ih]
  ·rw [Lib.count_cons_ne _ _ _ hx,List.flatMap_cons,if_neg hx,←ih]
   rcases Nat.eq_zero_or_pos (Lib.count r [c]) with h0|h0
   ·rw [h0];rfl
   ·obtain ⟨i,hi⟩:=Lib.index_of_count h0
    obtain ⟨k,hk⟩:∃k,Lib.count r [c]=k+1:=⟨Lib.count r [c] -1,by omega⟩
    have hi2:Lib.index (x::r) [c]=((i+1:Nat):Int):=by
     have hne:¬([c].isPrefixOf (x::r))=true:=by
      simp only [List.isPrefixOf,Bool.and_true,beq_iff_eq]
      exact fun e=>hx e.symm
     unfold Lib.index
     rw [if_neg hne,if_neg (by rw [hi];intro e;have:=beq_iff_eq.1 e;omega),hi]
     omega
    rw [hk,Lib.replaceK_hit [c] new k r i hi,Lib.replaceK_hit [c] new k (x::r) (i+1) hi2]
    simp [List.take_succ_cons]
theorem replaceAll_one (c:UInt8) (new s:List UInt8) (h:[c]≠new):Lib.replaceAll s [c] new=s.flatMap fun x=>if x=c then new else [x]:=by
 unfold Lib.replaceAll Lib.replace
 rw [if_neg (by intro e;exact h (beq_iff_eq.1 e))]
 have:Lib.replaceNum s [c] (-1)=Lib.count s [c]:=by unfold Lib.replaceNum;rw [if_pos (.inl (by omega))]
 rw [this,rep_one]
theorem trim_one (l:List UInt8) (c:UInt8):Lib.trimSuffix (l++[c]) [c]=l:=by
 unfold Lib.trimSuffix
 rw [if_pos (by unfold Lib.hasSuffix;rw [List.isSuffixOf_iff_suffix];exact List.suffix_append _ _)]
 simp
theorem trim_text (e:Int) (L:List Fl):Lib.trimSuffix (textOf e L) [10]=za4 e L++za5 (Crc.sum (za4 e L)):=by
 unfold textOf
 rw [←List.append_assoc,trim_one]
theorem exportT_eq (s:BS):zd8 s=bt ((za4 ((s.epoch:Int)+1) s.fs.2++za5 (Crc.sum (za4 ((s.epoch:Int)+1) s.fs.2))).flatMap fun x=>if x=10 then [59,32] else [x]):=by
 unfold zd8
 rw [trim_text,replaceAll_one _ _ _ (by decide)]
def PlOk (k:Nat) (s:PlS):Prop:=match s.b with
 |none=>s.now=0
 |some hb=>PlI hb.1 k s.now hb.2∧hb.2.fs.2.length≤k
section
variable {k now:Nat} {hs:List ByteArray} {s:BS} {x:Wd} {l:List ByteArray}
theorem PlOk.zero:PlOk 0 ⟨none,0⟩:=rfl
theorem PlOk.more {s:PlS} (h:PlOk k s):PlOk (k+1) s:=by
 unfold PlOk at h ⊢
 split
 ·rename_i e
  rw [e] at h
  exact h
 ·rename_i e
  rw [e] at h
  exact ⟨h.1.more,Nat.le_succ_of_le h.2⟩
theorem zfm (hI:PlI hs k now s) (hl:s.fs.2.length≤k):PlOk k ⟨some (hs,s),now⟩:=⟨hI,hl⟩
theorem pickS_len (hl:s.fs.2.length≤k) (hk:k<200) (n:Nat):(zbz (cS hs) s n now).2.fs.2.length≤k+1:=by
 have h200:s.fs.2.length<200:=by omega
 unfold zbz
 split
 ·split
  ·exact Nat.le_trans (put_len h200) (by omega)
  ·split
   ·show s.fs.2.length≤k+1
    omega
   ·exact Nat.le_trans (put_len h200) (by omega)
 ·show s.fs.2.length≤k+1
  omega
theorem lookB_len (hl:s.fs.2.length≤k) (z:ByteArray) (b:Bool):(zcl (cS hs) s z b).2.fs.2.length≤k+1:=by
 unfold zcl
 dsimp only
 split
 ·exact Nat.le_trans (List.length_filter_le _ _) (by omega)
 ·show s.fs.2.length≤k+1
  omega
theorem words_n (h:∀n∈x.n,n≤9999999):x.n.getD 0 0≤9999999:=by
 rcases hx:x.n with _|⟨n,r⟩
 ·simp
 ·exact h n (by rw [hx];exact List.mem_cons_self)
theorem actS_ok (c:Cmd) (hx:∀n∈x.n,n≤9999999) (hI:PlI hs k now s) (hl:s.fs.2.length≤k) (hk:k<200):PlOk (k+1) (zaJ c x hs s now).2:=by
 have h0:=zfm hI.more (Nat.le_succ_of_le hl)
 have hn:=words_n hx
 cases c with
 |table=>unfold zaJ;dsimp only;split<;>exact h0
 |moves=>unfold zaJ;dsimp only;split<;>exact h0
 |ring=>unfold zaJ;dsimp only;split<;>exact h0
 |rival=>exact h0
 |pick=>exact zfm (hI.pick (by omega) (by unfold U64;omega)) (pickS_len hl hk _)
 |look=>exact zfm (hI.look _ _) (lookB_len hl _ _)
 |drain=>
  unfold zaJ
  dsimp only
  split
  ·exact zfm (hI.drain _ _) (Nat.le_succ_of_le hl)
  ·exact h0
 |tick=>
  refine zfm (now:=now+x.n.getD 0 0) ⟨hI.ok,hI.st,hI.rise, ?_, ?_, ?_, ?_,fun y hy=> ?_⟩ (Nat.le_succ_of_le hl)
  ·have:=hI.last
   omega
  ·have:=hI.nw;omega
  ·have:=hI.ep;omega
  ·have:=hI.nd;omega
  ·have:=hI.fl y hy
   exact ⟨this.1,this.2.1,by have:=this.2.2.1;omega,this.2.2.2⟩
 |up=>exact h0
 |flows=>exact h0
 |exprt=>exact zfm ⟨hI.ok,hI.st,hI.rise,hI.last,hI.more.nw,by have:=hI.ep;show s.epoch+1≤k+1;omega,hI.more.nd,hI.fl⟩ (Nat.le_succ_of_le hl)
theorem beginS_ok {s:PlS} (h:PlOk k s) (hs:List ByteArray):PlOk (k+1) (zbt s hs).2:=by
 unfold zbt
 split
 ·exact h.more
 ·rename_i hf
  exact zfm (plI_new hf) (Nat.zero_le _)
theorem lineS_ok {s:PlS} (h:PlOk k s) (hk:k<200) (c:ByteArray) (l:List ByteArray):PlOk (k+1) (zch s c l).2:=by
 unfold zch
 split
 ·split
  ·exact h.more
  ·exact beginS_ok h _
 ·split
  ·split<;>exact h.more
  ·split
   ·exact h.more
   ·split
    ·exact h.more
    ·rename_i hr
     split
     ·exact h.more
     ·split
      ·exact h.more
      ·rename_i hb hsb
       unfold PlOk at h
       rw [hsb] at h
       exact actS_ok _ (zen hr).2.2 h.1 h.2 hk
theorem playS_ok {s:PlS} (h:PlOk k s) (hk:k<200) (line:ByteArray):PlOk (k+1) (zcu s line).2:=lineS_ok h hk _ _
theorem scrS_ok (l:List ByteArray):∀i,i≤l.length→i≤200→PlOk i (zcH (l.take i)).2
 |0,_,_=>PlOk.zero
 |i+1,h,h2=>by
  rw [zfR h]
  exact playS_ok (scrS_ok l i (by omega) (by omega)) (by omega) _
end
end Go.Proofs.YthkfhfldoniolaaGreatDoor
namespace Go.Proofs.YthkfhfldoniolaaGreatDoor
open Go.RowKit
abbrev rowH:Array Value:= #[.string ⟨#[117,112]⟩,.string ⟨#[104,111,115,116,115,32,120]⟩,.string ⟨#[112,105,99,107,32,53]⟩,.string ⟨#[112,105,99,107,32,53]⟩,.string ⟨#[117,112]⟩]
abbrev rowA:Array Value:= #[.string ⟨#[108,101,118,101,108,104,97,110,100,58,32,110,111,110,101]⟩,.string ⟨#[111,107]⟩,.string ⟨#[120,32,110,101,119]⟩,.string ⟨#[120,32,107,101,112,116]⟩,.string ⟨#[120]⟩]
set_option maxRecDepth 100000 in
theorem hello_any {ea:Nat→Addr} (w:World) (hE:ErrsS ea w) (hW:zdz w) (hG:zbK w):Calls Tryz.prog 6 #[] w (True1 w):=by
 have hb0:Below w.heap.size w (w.alloc (.cells rowH 9)):=(Below.refl _ _).alloc (Nat.le_refl _) _
 have hT:zcr (w.alloc (.cells rowH 9)) (some ⟨w.heap.size,0,none⟩) 5 helloL:=txIn_lit (l:=helloL) (by decide) (by decide+kernel)
 have HR:Hid (Calls Tryz.prog 10 #[.slice (some ⟨w.heap.size,0,none⟩) 5 5] (w.alloc (.cells rowH 9)) fun e w'=>∃A' c',e= .returned (.tuple #[.slice A' 5 c',.nilIface])∧Reads w' w'.heap.size 1 A' 5 (zak helloA)∧Below w.heap.size w w'):=Lib.hid ((run_any _ (hE.below hb0) (hW.below hb0) (hG.below hb0) hT (by decide) (by decide+kernel)).mono fun e w' ⟨A',c',a,b,d⟩=>by
  rw [hello_plain] at b
  exact ⟨A',c',a,Reads.zbv b,zaa hb0 d⟩)
 clear hb0 hT hE hW hG
 go_enter Tryz.func6,Tryz.ntmps6
 go_wp2_with fail
 refine HR.out.mono ?_
 rintro e w2 ⟨A',c',rfl,hr,hb⟩
 have hb3:Below w2.heap.size w2 (w2.alloc (.cells rowA 9)):=(Below.refl _ _).alloc (Nat.le_refl _) _
 have HB:=Lib.hid (zaa hb hb3)
 have HS:Hid (Calls Tryz.prog 11 #[.slice A' 5 c',.slice (some ⟨w2.heap.size,0,none⟩) 5 5] (w2.alloc (.cells rowA 9)) fun e w'=>e= .returned (.bool true)∧∃m,w'=(w2.alloc (.cells rowA 9)).drewN m):=Lib.hid
  (zfA A' (some ⟨w2.heap.size,0,none⟩) c' 5 (w2.alloc (.cells rowA 9)).heap.size helloA _ ((hr.below hb3).more hb3.size) (txIn_lit (l:=helloA) (by decide) (by decide+kernel)).r (by decide))
 clear hr hb hb3 HR
 go_wp2_with fail
 refine HS.out.mono ?_
 rintro e w3 ⟨rfl,m,rfl⟩
 have HB2:=Lib.hid (below_drewN HB.out m)
 clear HS HB
 go_wp2
 go_ret
 exact ⟨rfl,HB2.out⟩
end Go.Proofs.YthkfhfldoniolaaGreatDoor
namespace Go.Proofs.YthkfhfldoniolaaGreatDoor
open Go.RowKit
theorem zdq {c:ByteArray} {l:List UInt8} (h:c=bt l):(c.toList==l)=true:=by
 subst h
 rw [Lib.toList_data]
 simp [bt]
theorem form_ways (c:ByteArray):
 ((c.toList==[104,111,115,116,115])=true∧zcx c=some (-1,0))∨
 ((c.toList==[104,111,115,116,115])=false∧(c.toList==[109,111,118,101,115])=true∧zcx c=some (-1,1))∨
 ((c.toList==[104,111,115,116,115])=false∧(c.toList==[109,111,118,101,115])=false∧
   (((c.toList==[116,97,98,108,101])=true∧zcx c=some (0,1))∨
   ((c.toList==[116,97,98,108,101])=false∧(c.toList==[114,105,118,97,108])=true∧zcx c=some (0,1))∨
   ((c.toList==[116,97,98,108,101])=false∧(c.toList==[114,105,118,97,108])=false∧(c.toList==[112,105,99,107])=true∧zcx c=some (0,1))∨
   ((c.toList==[116,97,98,108,101])=false∧(c.toList==[114,105,118,97,108])=false∧(c.toList==[112,105,99,107])=false∧(c.toList==[116,105,99,107])=true∧zcx c=some (0,1))∨
   ((c.toList==[116,97,98,108,101])=false∧(c.toList==[114,105,118,97,108])=false∧(c.toList==[112,105,99,107])=false∧(c.toList==[116,105,99,107])=false∧
     (((c.toList==[114,105,110,103])=true∧zcx c=some (0,2))∨
     ((c.toList==[114,105,110,103])=false∧(c.toList==[106,117,109,112])=true∧zcx c=some (0,2))∨
     ((c.toList==[114,105,110,103])=false∧(c.toList==[106,117,109,112])=false∧
       (((c.toList==[108,111,111,107])=true∧zcx c=some (1,1))∨
       ((c.toList==[108,111,111,107])=false∧(c.toList==[100,114,97,105,110])=true∧zcx c=some (1,1))∨
       ((c.toList==[108,111,111,107])=false∧(c.toList==[100,114,97,105,110])=false∧
         (((c.toList==[117,112])=true∧zcx c=some (0,0))∨
         ((c.toList==[117,112])=false∧(c.toList==[102,108,111,119,115])=true∧zcx c=some (0,0))∨
         ((c.toList==[117,112])=false∧(c.toList==[102,108,111,119,115])=false∧(c.toList==[101,120,112,111,114,116])=true∧zcx c=some (0,0))∨
         ((c.toList==[117,112])=false∧(c.toList==[102,108,111,119,115])=false∧(c.toList==[101,120,112,111,114,116])=false∧zcx c=none))))))))):=by
 by_cases h1:c=zav
 ·exact .inl ⟨zdq h1,by subst h1;decide⟩
 refine .inr ?_
 by_cases h2:c=zco
 ·exact .inl ⟨zao h1,zdq h2,by subst h2;decide⟩
 refine .inr ⟨zao h1,zao h2, ?_⟩
 by_cases h3:c=cmTable
 ·exact .inl ⟨zdq h3,by subst h3;decide⟩
 refine .inr ?_
 by_cases h4:c=cmRival
 ·exact .inl ⟨zao h3,zdq h4,by subst h4;decide⟩
 refine .inr ?_
 by_cases h5:c=zfU
 ·exact .inl ⟨zao h3,zao h4,zdq h5,by subst h5;decide⟩
 refine .inr ?_
 by_cases h6:c=cmTick
 ·exact .inl ⟨zao h3,zao h4,zao h5,zdq h6,by subst h6;decide⟩
 refine .inr ⟨zao h3,zao h4,zao h5,zao h6, ?_⟩
 by_cases h7:c=cmRing
 ·exact .inl ⟨zdq h7,by subst h7;decide⟩
 refine .inr ?_
 by_cases h8:c=zaP
 ·exact .inl ⟨zao h7,zdq h8,by subst h8;decide⟩
 refine .inr ⟨zao h7,zao h8, ?_⟩
 by_cases h9:c=cmLook
 ·exact .inl ⟨zdq h9,by subst h9;decide⟩
 refine .inr ?_
 by_cases h10:c=zeo
 ·exact .inl ⟨zao h9,zdq h10,by subst h10;decide⟩
 refine .inr ⟨zao h9,zao h10, ?_⟩
 by_cases h11:c=cmUp
 ·exact .inl ⟨zdq h11,by subst h11;decide⟩
 refine .inr ?_
 by_cases h12:c=zez
 ·exact .inl ⟨zao h11,zdq h12,by subst h12;decide⟩
 refine .inr ?_
 by_cases h13:c=zds
 ·exact .inl ⟨zao h11,zao h12,zdq h13,by subst h13;decide⟩
 refine .inr ⟨zao h11,zao h12,zao h13, ?_⟩
 unfold zcx
 rw [if_neg h1,if_neg h2,if_neg (by rintro (h|h|h|h);exact h3 h;exact h4 h;exact h5 h;exact h6 h),if_neg (by rintro (h|h);exact h7 h;exact h8 h),if_neg (by rintro (h|h);exact h9 h;exact h10 h),if_neg (by rintro (h|h|h);exact h11 h;exact h12 h;exact h13 h)]
def formV (o:Option (Int×Nat)):Value:= .tuple #[.int .i64 (match o with|some f=>f.1|none=>0),.int .i64 (match o with|some f=>(f.2:Int)|none=>0),.bool o.isSome]
set_option maxRecDepth 100000 in
theorem formOf_any (c:ByteArray) (w:World):Calls Tryz.prog 13 #[.string c] w fun e w'=>e= .returned (formV (zcx c))∧w=w':=by
 rcases form_ways c with ⟨t1,e⟩|⟨t1,t2,e⟩|⟨t1,t2,⟨t3,e⟩|⟨t3,t4,e⟩|⟨t3,t4,t5,e⟩|⟨t3,t4,t5,t6,e⟩|⟨t3,t4,t5,t6,⟨t7,e⟩|⟨t7,t8,e⟩|⟨t7,t8,⟨t9,e⟩|⟨t9,t10,e⟩|⟨t9,t10,⟨t11,e⟩|⟨t11,t12,e⟩|⟨t11,t12,t13,e⟩|⟨t11,t12,t13,e⟩⟩⟩⟩⟩
 all_goals
  have HE:=Lib.hid e
  clear e
  go_enter Tryz.func13,Tryz.ntmps13
  go_wp2
  go_ret3
  exact ⟨by rw [HE.out];rfl,rfl⟩
theorem errT_eq (k:Nat):ze8 (k+1)=(⟨#[108,101,118,101,108,104,97,110,100,58,32]⟩:ByteArray)++bt (errWords.getD k []):=by
 rw [zdJ]
 unfold ze8
 rw [Nat.add_sub_cancel]
 simp [bt]
set_option maxRecDepth 100000 in
theorem zci (k:Nat) (hk:k<9) (w:World):Calls Tryz.prog 14 #[.int .i64 ((k+1:Nat):Int)] w fun e w'=>e= .returned (.string (ze8 (k+1)))∧Below w.heap.size w w':=by
 have h9:k=0∨k=1∨k=2∨k=3∨k=4∨k=5∨k=6∨k=7∨k=8:=by omega
 rcases h9 with rfl|rfl|rfl|rfl|rfl|rfl|rfl|rfl|rfl
 all_goals
  go_enter Tryz.func14,Tryz.ntmps14
  go_wp2
  go_ret
  exact ⟨by rw [errT_eq];rfl,(Below.refl _ _).alloc (Nat.le_refl _) _⟩
def orT (c:Nat) (s:ByteArray):ByteArray:=if c=0 then s else ze8 c
theorem orT_tell (r:Nat×ByteArray):orT r.1 r.2=zbX r:=rfl
set_option maxRecDepth 100000 in
theorem zdC (c:Nat) (s:ByteArray) (hc:c≤9) (w:World):Calls Tryz.prog 20 #[.int .i64 (c:Int),.string s] w fun e w'=>e= .returned (.string (orT c s))∧Below w.heap.size w w':=by
 rcases Nat.eq_zero_or_pos c with rfl|h0
 ·go_enter Tryz.func20,Tryz.ntmps20
  go_wp2
  go_ret
  exact ⟨rfl,Below.refl _ _⟩
 ·obtain ⟨k,rfl⟩:∃k,c=k+1:=⟨c-1,by omega⟩
  have HT:=Lib.hid (zci k (by omega) w)
  have hx:orT (k+1) s=ze8 (k+1):=by unfold orT;rw [if_neg (by omega)]
  rw [hx]
  generalize ze8 (k+1)=y at*
  have d1:decide (((k+1:Nat):Int)>0)=true:=by simp
  generalize ((k+1:Nat):Int)=z at*
  clear hx h0 hc
  go_enter Tryz.func20,Tryz.ntmps20
  go_wp2_with fail
  refine HT.out.mono ?_
  rintro e w1 ⟨rfl,hb⟩
  have HB:=Lib.hid hb
  clear hb HT
  go_wp2
  go_ret
  exact ⟨rfl,HB.out⟩
theorem joinS_cons (x:ByteArray) (r:List ByteArray) (y:List UInt8):zbA (x::r) y=bt (x.data.toList++Lib.joinTail y (r.map fun x=>x.data.toList)):=by
 unfold zbA
 rw [if_neg (by simp),List.map_cons,Lib.join_cons]
theorem joinTail_len_le (r:List ByteArray) (y:List UInt8) (m:Nat) (h:∀x∈r,x.size≤m):(Lib.joinTail y (r.map fun x=>x.data.toList)).length≤r.length*(m+y.length):=by
 induction r with
 |nil=>simp [Lib.joinTail]
 |cons x r ih=>
  have h1:=ih fun z hz=>h z (List.mem_cons_of_mem _ hz)
  have h2:=h x List.mem_cons_self
  have e:Lib.joinTail y ((x::r).map fun x=>x.data.toList)=y++x.data.toList++Lib.joinTail y (r.map fun x=>x.data.toList):=by simp [Lib.joinTail]
  have e2:x.data.toList.length=x.size:=by simp
  rw [e,List.length_append,List.length_append,List.length_cons,Nat.add_mul,Nat.one_mul]
  omega
set_option maxRecDepth 100000 in
theorem zdY (A:Option Addr) (c:Nat) (l:List ByteArray) (y:ByteArray) (w:World) (hr:Reads w w.heap.size 1 A l.length (zak l)) (hl:l.length≤1000) (hz:∀x∈l,x.size≤1000) (hy:y.size≤1000):
 Calls Tryz.prog 24 #[.slice A l.length c,.string y] w fun e w'=>e= .returned (.string (zbA l y.data.toList))∧w=w':=by
 rcases l with _|⟨x,r⟩
 ·have d1:decide ((([]:List ByteArray).length:Int)=0)=true:=rfl
  show Calls Tryz.prog 24 #[.slice A 0 c,.string y] w _
  go_enter Tryz.func24,Tryz.ntmps24
  go_wp2
  go_ret
  exact ⟨rfl,rfl⟩
 ·obtain ⟨ad,rfl,hc0⟩:=zcq hr (k:=0) (by simp)
  rw [zd3] at hc0
  simp only [List.getElem_cons_zero] at hc0
  have hyl:y.data.toList.length=y.size:=by simp
  have hx0:=hz x List.mem_cons_self
  have HZ:Hid (∀k,k≤r.length→(bt (x.data.toList++Lib.joinTail y.data.toList ((r.take k).map fun x=>x.data.toList))).size≤3000000):=Lib.hid fun k hk=>by
   have h1:=joinTail_len_le (r.take k) y.data.toList 1000 fun z hz'=>hz z (List.mem_cons_of_mem _ (List.mem_of_mem_take hz'))
   have e2:x.data.toList.length=x.size:=by simp
   have h3:(r.take k).length*(1000+y.data.toList.length)≤1000*2000:=Nat.mul_le_mul (by rw [List.length_take];simp at hl;omega) (by omega)
   have e3:(bt (x.data.toList++Lib.joinTail y.data.toList ((r.take k).map fun x=>x.data.toList))).size=x.data.toList.length+(Lib.joinTail y.data.toList ((r.take k).map fun x=>x.data.toList)).length:=by rw [zf7,List.length_append]
   rw [e3]
   omega
  have HN:Hid (∀k (h:k<r.length),bt (x.data.toList++Lib.joinTail y.data.toList ((r.take k).map fun x=>x.data.toList))++y++r[k]=bt (x.data.toList++Lib.joinTail y.data.toList ((r.take (k+1)).map fun x=>x.data.toList))):=Lib.hid fun k h=>by
   rw [List.map_take,List.map_take,Lib.joinTail_take_succ y.data.toList (r.map fun x=>x.data.toList) k r[k].data.toList (by rw [List.getElem?_map,List.getElem?_eq_getElem h];rfl),zdJ,zdJ]
   simp [bt,List.append_assoc]
  have HE:Hid (bt (x.data.toList++Lib.joinTail y.data.toList ((r.take r.length).map fun x=>x.data.toList))=zbA (x::r) y.data.toList):=Lib.hid (by rw [joinS_cons,List.take_length])
  have HS:Hid (bt (x.data.toList++Lib.joinTail y.data.toList ((r.take 0).map fun x=>x.data.toList))=x):=Lib.hid (by simp [Lib.joinTail,bt_data])
  have HR:=Lib.hid (fun k (h:k<r.length)=>show∃ad',some ad=some ad'∧w.cell? (ad'.add (k+1))=some (.string r[k]) from by
   obtain ⟨ad',e,h2⟩:=zcq hr (k:=k+1) (by simp;omega)
   exact ⟨ad',e,by simpa using h2⟩)
  have HZ2:=Lib.hid (fun k (h:k<r.length)=>hz r[k] (List.mem_cons_of_mem _ (List.getElem_mem h)))
  have hlen:(x::r).length=r.length+1:=rfl
  rw [hlen]
  have hl2:r.length<1000:=by simp at hl;omega
  have d1:¬(((r.length+1:Nat):Int)=0):=by omega
  obtain ⟨J,hJ⟩:∃J:Nat→ByteArray,J=fun k=>bt (x.data.toList++Lib.joinTail y.data.toList ((r.take k).map fun x=>x.data.toList)):=⟨_,rfl⟩
  have HZ':Hid (∀k,k≤r.length→(J k).size≤3000000):=Lib.hid (by rw [hJ];exact HZ.out)
  have HN':Hid (∀k (h:k<r.length),J k++y++r[k]=J (k+1)):=Lib.hid (by rw [hJ];exact HN.out)
  have HE':Hid (J r.length=zbA (x::r) y.data.toList):=Lib.hid (by rw [hJ];exact HE.out)
  have HS':Hid (J 0=x):=Lib.hid (by rw [hJ];exact HS.out)
  clear HZ HN HE HS hJ hr hz hlen hl hyl
  generalize zbA (x::r) y.data.toList=Q at*
  go_enter Tryz.func24,Tryz.ntmps24
  go_wp2
  go_loop [5,6] (fun ov iv=>∃(k:Nat),ov= .string (J k)∧iv= .int .i64 ((k+1:Nat):Int)∧k≤r.length) (fun _ iv=>r.length+1- (intOf iv).toNat)
  case atStart=>exact ⟨0,by rw [HS'.out],rfl,Nat.zero_le _⟩
  case round=>
   obtain ⟨k,rfl,rfl,hk⟩:=hrel
   by_cases hlt:k<r.length
   ·have hc:w.cell? ⟨ad.block,ad.off+(k+1),none⟩=some (.string r[k]):=by
     obtain ⟨ad',e,hc⟩:=HR.out k hlt
     cases e
     unfold Addr.add at hc
     rw [if_neg (by omega)] at hc
     exact hc
    have hlt2:(k:Int)+1<(r.length:Int)+1:=by omega
    have z1:=HZ'.out k hk
    have z2:=HZ2.out k hlt
    have z3:=HN'.out k hlt
    go_wp2
    go_round
    case rel=>exact ⟨k+1,rfl,by go_num,by omega⟩
    case measure=>simp [intOf];omega
   ·obtain rfl:k=r.length:=by omega
    go_wp2
    go_ret
    exact ⟨by rw [HE'.out];rfl,rfl⟩
end Go.Proofs.YthkfhfldoniolaaGreatDoor
