/-
  Texts merged by a program of this claim's: RefPlain, Ref02A.
-/
import Derived.Test.YtkbenkldfehhlaaGreatDoorM5
import Derived.Test.YtkbenkldfehhlaaGreatDoorM7
namespace Go.Proofs.YtkbenkldfehhlaaGreatDoor
open Go Go.RowKit Go.Sort
def rwithout (L:List (Str×DFile)) (n:Str):List (Str×DFile):=L.filter fun x=>!(x.1==n)
def rins (f:Str×DFile):List (Str×DFile)→List (Str×DFile)
 |[]=>[f]
 |x::L=>if f.1<x.1 then f::x::L else x::rins f L
def rwith (L:List (Str×DFile)) (f:Str×DFile):List (Str×DFile):=rins f (rwithout L f.1)
def Srt (L:List (Str×DFile)):Prop:=L.Pairwise fun a b=>a.1<b.1
theorem str_tri (a b:Str):a<b∨a=b∨b<a:=by
 by_cases h1:a<b
 ·exact .inl h1
 ·by_cases h2:b<a
  ·exact .inr (.inr h2)
  ·exact .inr (.inl (List.le_antisymm (List.not_lt.1 h2) (List.not_lt.1 h1)))
theorem getF_rwithout (L:List (Str×DFile)) (n m:Str):getF (rwithout L n) m=if n=m then none else getF L m:=by
 induction L with
 |nil=>simp[rwithout,getF]
 |cons x L ih =>
  obtain⟨k,f⟩:=x
  unfold rwithout at ih ⊢
  by_cases hk:k=n
  ·subst hk
   simp only[List.filter_cons,beq_self_eq_true,Bool.not_true,Bool.false_eq_true,if_false,ih]
   by_cases hm:k=m
   ·simp[hm]
   ·simp[hm,getF]
  ·have hb:(k==n)=false:=by simpa using hk
   simp only[List.filter_cons,hb,Bool.not_false,if_true,getF,ih]
   by_cases hm:k=m
   ·subst hm;simp[Ne.symm hk]
   ·simp[hm]
theorem srt_rwithout {L:List (Str×DFile)}(h:Srt L) (n:Str):Srt (rwithout L n):=List.Pairwise.filter _ h
theorem not_rwithout (L:List (Str×DFile)) (n:Str):n∉namesF (rwithout L n):=by
 rw[←getF_none,getF_rwithout,if_pos rfl]
theorem getF_rins (f:Str×DFile) (m:Str):∀L:List (Str×DFile),f.1∉namesF L→getF (rins f L) m=if f.1=m then some f.2 else getF L m
 |[],_=>by obtain⟨n,g⟩:=f;simp[rins,getF]
 |(k,g)::L,h=>by
  obtain⟨n,e⟩:=f
  simp only[namesF,List.map_cons,List.mem_cons,not_or]at h
  unfold rins
  split
  ·simp[getF]
  ·simp only[getF]
   rw[getF_rins (n,e) m L h.2]
   by_cases hk:k=m
   ·subst hk;simp[h.1]
   ·simp[hk]
theorem mem_rins (f x:Str×DFile):∀L:List (Str×DFile),x∈rins f L↔x=f∨x∈L
 |[]=>by simp[rins]
 |y::L=>by
  unfold rins
  split
  ·simp
  ·simp only[List.mem_cons,mem_rins f x L]
   constructor
   ·rintro (h|h|h)
    ·exact .inr (.inl h)
    ·exact .inl h
    ·exact .inr (.inr h)
   ·rintro (h|h|h)
    ·exact .inr (.inl h)
    ·exact .inl h
    ·exact .inr (.inr h)
theorem srt_rins (f:Str×DFile):∀L:List (Str×DFile),f.1∉namesF L→Srt L→Srt (rins f L)
 |[],_,_=>List.pairwise_singleton _ _
 |x::L,h,hs=>by
  simp only[namesF,List.map_cons,List.mem_cons,not_or]at h
  obtain⟨h1,h2⟩:=List.pairwise_cons.1 hs
  unfold rins
  split
  ·rename_i hlt
   refine List.Pairwise.cons (fun y hy=>?_) hs
   rcases List.mem_cons.1 hy with rfl|hy
   ·exact hlt
   ·exact List.lt_trans hlt (h1 y hy)
  ·rename_i hge
   have hxf:x.1<f.1:=by
    rcases str_tri x.1 f.1 with h'|h'|h'
    ·exact h'
    ·exact absurd h'.symm h.1
    ·exact absurd h' hge
   refine List.Pairwise.cons (fun y hy=>?_) (srt_rins f L h.2 h2)
   rcases (mem_rins f y L).1 hy with rfl|hy
   ·exact hxf
   ·exact h1 y hy
theorem getF_rwith (L:List (Str×DFile)) (f:Str×DFile) (m:Str):getF (rwith L f) m=if f.1=m then some f.2 else getF L m:=by
 unfold rwith
 rw[getF_rins f m _ (not_rwithout L f.1),getF_rwithout]
 split
 ·rfl
 ·rfl
theorem srt_rwith {L:List (Str×DFile)}(h:Srt L) (f:Str×DFile):Srt (rwith L f):=srt_rins f _ (not_rwithout L f.1) (srt_rwithout h f.1)
structure RefOf (d r:Dsk):Prop where
 most:r.most=d.most
 arm:r.arm=d.arm
 down:r.down=d.down
 srt:Srt r.files
 get:∀n,getF r.files n=getF d.files n
theorem srt_nodup {L:List (Str×DFile)}(h:Srt L):(namesF L).Nodup:=by
 unfold namesF List.Nodup
 rw[List.pairwise_map]
 exact h.imp fun hab e=>by rw[e]at hab;exact List.lt_irrefl _ hab
section
variable {d r:Dsk}
theorem RefOf.file (h:RefOf d r) (n:Str):fileOf r.files n=fileOf d.files n:=by unfold fileOf;rw[h.get]
theorem RefOf.mem (h:RefOf d r) (n:Str):n∈namesF r.files↔n∈namesF d.files:=by
 have h1:=getF_none r.files n
 have h2:=getF_none d.files n
 rw[h.get]at h1
 constructor
 ·intro hr;exact Decidable.byContradiction fun hn=>(h1.1 (h2.2 hn)) hr
 ·intro hd;exact Decidable.byContradiction fun hn=>(h2.1 (h1.2 hn)) hd
theorem RefOf.list (ok:d.Ok) (h:RefOf d r):d.list=namesF r.files:=by
 have hp:(namesF r.files).Perm (namesF d.files):=(List.perm_ext_iff_of_nodup (srt_nodup h.srt) ok.names).2 h.mem
 unfold Dsk.list
 rw[←Go.mergeSort_of_perm hp]
 refine List.mergeSort_of_pairwise ?_
 unfold namesF
 rw[List.pairwise_map]
 exact h.srt.imp fun hab=>by simpa using List.le_of_lt hab
theorem RefOf.len (ok:d.Ok) (h:RefOf d r):r.files.length=d.files.length:=by
 have hp:(namesF r.files).Perm (namesF d.files):=(List.perm_ext_iff_of_nodup (srt_nodup h.srt) ok.names).2 h.mem
 simpa [namesF] using hp.length_eq
theorem used_names (L:List (Str×DFile)) (hn:(namesF L).Nodup):usedF L=((namesF L).map fun n=>(fileOf L n).bytes.length).sum:=by
 unfold usedF namesF
 rw[List.map_map]
 congr 1
 refine List.map_congr_left fun x hx=>?_
 obtain⟨n,f⟩:=x
 simp only[Function.comp]
 unfold fileOf
 rw[getF_mem hn hx]
 rfl
theorem RefOf.used (ok:d.Ok) (h:RefOf d r):usedF r.files=usedF d.files:=by
 have hp:(namesF r.files).Perm (namesF d.files):=(List.perm_ext_iff_of_nodup (srt_nodup h.srt) ok.names).2 h.mem
 rw[used_names _ (srt_nodup h.srt),used_names _ ok.names]
 have e:(fun n=>(fileOf r.files n).bytes.length)=fun n=>(fileOf d.files n).bytes.length:=by funext n;rw[h.file]
 rw[e]
 exact (hp.map _).sum_nat
theorem ref_op (h:RefOf d r){may:Int}{act ract:List (Str×DFile)→List (Str×DFile)}(hs:Srt (ract r.files)) (hg:∀m,getF (ract r.files) m=getF (act d.files) m){d':Dsk}{x:Int}(hr:d.op may act=(d',x)) :
  ∃r',r.op may ract=(r',x)∧RefOf d' r':=by
 unfold Dsk.op at hr ⊢
 rw[h.down,h.arm]
 split at hr
 ·obtain⟨rfl,rfl⟩:=Prod.mk.inj hr
  rename_i hd
  rw[if_pos hd];exact⟨r,rfl,h⟩
 ·rename_i hd
  rw[if_neg hd]
  split at hr
  ·obtain⟨rfl,rfl⟩:=Prod.mk.inj hr
   rename_i hm
   rw[if_pos hm];exact⟨r,rfl,h⟩
  ·rename_i hm
   rw[if_neg hm]
   split at hr
   ·obtain⟨rfl,rfl⟩:=Prod.mk.inj hr
    rename_i ha
    rw[if_pos ha];exact⟨_,rfl,h.most,rfl,rfl,h.srt,h.get⟩
   ·obtain⟨rfl,rfl⟩:=Prod.mk.inj hr
    rename_i ha
    rw[if_neg ha];exact⟨_,rfl,h.most,rfl,rfl,hs,hg⟩
def Dsk.rAppend (r:Dsk) (n:Str) (b:List UInt8):Dsk×Int:=r.op (r.mayAppend n b) fun L=>rwith L (n,⟨(fileOf L n).bytes++b,(fileOf L n).synced⟩)
def Dsk.rSync (r:Dsk) (n:Str):Dsk×Int:=r.op (r.there n) fun L=>rwith L (n,⟨(fileOf L n).bytes,(fileOf L n).bytes.length⟩)
def Dsk.rRename (r:Dsk) (a b:Str):Dsk×Int:=r.op (if okName b then r.there a else 13) fun L=>rwith (rwithout L a) (b,fileOf L a)
def Dsk.rRemove (r:Dsk) (n:Str):Dsk×Int:=r.op (r.there n) fun L=>rwithout L n
def Dsk.rCut (r:Dsk) (n:Str) (k:Int):Dsk×Int:=r.op (r.mayCut n k) fun L=>rwith L (n,⟨(fileOf L n).bytes.take k.toNat,k.toNat⟩)
theorem there_of (h:RefOf d r) (n:Str):r.there n=d.there n:=by
 unfold Dsk.there
 by_cases hn:n∈namesF d.files
 ·rw[if_pos hn,if_pos ((h.mem n).2 hn)]
 ·rw[if_neg hn,if_neg fun h'=>hn ((h.mem n).1 h')]
theorem mayAppend_of (ok:d.Ok) (h:RefOf d r) (n:Str) (b:List UInt8):r.mayAppend n b=d.mayAppend n b:=by
 have e:(n∉namesF r.files)=(n∉namesF d.files):=by rw[h.mem n]
 unfold Dsk.mayAppend
 simp only[h.used ok,h.most,h.len ok,e]
theorem mayCut_of (h:RefOf d r) (n:Str) (k:Int):r.mayCut n k=d.mayCut n k:=by unfold Dsk.mayCut;rw[h.get]
theorem ref_append (ok:d.Ok) (h:RefOf d r){n:Str}{b:List UInt8}{d':Dsk}{x:Int}(hr:d.append n b=(d',x)):∃r',r.rAppend n b=(r',x)∧RefOf d' r':=by
 unfold Dsk.rAppend
 rw[mayAppend_of ok h]
 exact ref_op h (srt_rwith h.srt _) (fun m=>by rw[getF_rwith,getF_setF,h.get,h.file]) hr
theorem ref_sync (h:RefOf d r){n:Str}{d':Dsk}{x:Int}(hr:d.sync n=(d',x)):∃r',r.rSync n=(r',x)∧RefOf d' r':=by
 unfold Dsk.rSync
 rw[there_of h]
 exact ref_op h (srt_rwith h.srt _) (fun m=>by rw[getF_rwith,getF_setF,h.get,h.file]) hr
theorem rgetF_delF (L:List (Str×DFile)) (hn:(namesF L).Nodup) (a m:Str):getF (delF L a) m=if a=m then none else getF L m:=by
 induction L with
 |nil=>simp[delF,getF]
 |cons x L ih =>
  obtain⟨k,g⟩:=x
  simp only[namesF,List.map_cons,List.nodup_cons]at hn
  by_cases hk:k=a
  ·subst hk
   by_cases hm:k=m
   ·subst hm
    simp only[delF,if_true]
    exact (getF_none _ _).2 hn.1
   ·simp[delF,getF,hm]
  ·by_cases hm:k=m
   ·subst hm;simp[delF,getF,hk,Ne.symm hk]
   ·simp only[delF,hk,if_false,getF,hm]
    exact ih hn.2
theorem ref_remove (ok:d.Ok) (h:RefOf d r){n:Str}{d':Dsk}{x:Int}(hr:d.remove n=(d',x)):∃r',r.rRemove n=(r',x)∧RefOf d' r':=by
 unfold Dsk.rRemove
 rw[there_of h]
 exact ref_op h (srt_rwithout h.srt _) (fun m=>by show getF (rwithout r.files n) m=_;rw[getF_rwithout,rgetF_delF _ ok.names,h.get]) hr
theorem ref_rename (ok:d.Ok) (h:RefOf d r){a b:Str}{d':Dsk}{x:Int}(hr:d.rename a b=(d',x)):∃r',r.rRename a b=(r',x)∧RefOf d' r':=by
 unfold Dsk.rRename
 rw[there_of h]
 exact ref_op h (srt_rwith (srt_rwithout h.srt _) _) (fun m=>by rw[getF_rwith,getF_rwithout,getF_setF,rgetF_delF _ ok.names,h.get,h.file]) hr
theorem ref_cut (h:RefOf d r){n:Str}{k:Int}{d':Dsk}{x:Int}(hr:d.cut n k=(d',x)):∃r',r.rCut n k=(r',x)∧RefOf d' r':=by
 unfold Dsk.rCut
 rw[mayCut_of h]
 exact ref_op h (srt_rwith h.srt _) (fun m=>by rw[getF_rwith,getF_setF,h.get,h.file]) hr
theorem ref_arm (h:RefOf d r) (n:Int):RefOf (d.armed n) (r.armed n):=by
 unfold Dsk.armed
 rw[h.down]
 split
 ·exact h
 ·exact⟨h.most,rfl,rfl,h.srt,h.get⟩
theorem ref_read (h:RefOf d r) (n:Str):r.read n=d.read n:=by unfold Dsk.read;rw[h.down,h.get]
theorem ref_new (most:Int):RefOf (newDsk most) (newDsk most):=⟨rfl,rfl,rfl,List.Pairwise.nil,fun _=>rfl⟩
end
set_option maxRecDepth 100000
set_option maxHeartbeats 1600000
def rfindI (L:List (Str×DFile)) (n:Str):Int:=match L.findIdx? (fun x=>x.1==n) with|some i=>(i:Int)|none=>-1
theorem rfind_at {L:List (Str×DFile)}{n:Str}{k:Nat}(hk:k<L.length) (h:∀j (hj:j<L.length),j<k→L[j].1≠n) (he:L[k].1=n):rfindI L n=k:=by
 have:L.findIdx? (fun x=>x.1==n)=some k:=by
  rw[List.findIdx?_eq_some_iff_getElem]
  exact⟨hk,by simpa using he,fun j hj=>by simpa using h j (by omega) hj⟩
 simp[rfindI,this]
theorem rfind_none {L:List (Str×DFile)}{n:Str}(h:∀j (hj:j<L.length),L[j].1≠n):rfindI L n = -1:=by
 have:L.findIdx? (fun x=>x.1==n)=none:=by
  rw[List.findIdx?_eq_none_iff]
  intro x hx
  obtain⟨j,hj,rfl⟩:=List.getElem_of_mem hx
  simpa using h j hj
 simp[rfindI,this]
section
variable {X:Nat→Prop}
def BsX (X:Nat→Prop) (w:World) (b:Value) (l:List UInt8):Prop:=Bs w b l∧(l≠[]→∀g,b.ownBlock=some g→X g)
theorem BsX.nw {X:Nat→Prop}{w w':World}{b:Value}{l:List UInt8}(h:BsX X w b l) (hw:Nw w w'):BsX X w' b l:=⟨h.1.nw hw,h.2⟩
theorem BsX.len {X:Nat→Prop}{w:World}{b:Value}{l:List UInt8}(h:BsX X w b l):∃a cap,b=.slice a l.length cap∧l.length≤maxLen:=h.1.len
def FCells (X:Nat→Prop) (w:World):List Value→List (Str×DFile)→Prop
 |cs,[]=>cs=[]
 |cs,x::L=>∃b cs',cs=.string ⟨x.1.toArray⟩::b :: .int .i64 x.2.synced::cs'∧BsX X w b x.2.bytes∧FCells X w cs' L
theorem FCells.nw {w w':World}(hw:Nw w w'):∀{L:List (Str×DFile)}{cs:List Value},FCells X w cs L→FCells X w' cs L
 |[],_,h=>h
 |_::_,_,⟨b,cs',h1,h2,h3⟩=>⟨b,cs',h1,h2.nw hw,FCells.nw hw h3⟩
theorem FCells.append {w:World}:∀{L M:List (Str×DFile)}{cs ds:List Value},FCells X w cs L→FCells X w ds M→FCells X w (cs++ds) (L++M)
 |[],_,_,_,h,h'=>by rw[show _=[] from h];exact h'
 |_::_,_,_,_,⟨b,cs',h1,h2,h3⟩,h'=>⟨b,cs'++_,by rw[h1];rfl,h2,FCells.append h3 h'⟩
theorem FCells.one {w:World}{n:Str}{f:DFile}{b:Value}(h:BsX X w b f.bytes):FCells X w [.string ⟨n.toArray⟩,b,.int .i64 f.synced] [(n,f)]:=⟨b,[],rfl,h,rfl⟩
theorem FCells.len {w:World}:∀{L:List (Str×DFile)}{cs:List Value},FCells X w cs L→cs.length=L.length*3
 |[],_,h=>by rw[show _=[] from h];rfl
 |_::L,_,⟨b,cs',h1,h2,h3⟩=>by rw[h1];simp only[List.length_cons,FCells.len h3];omega
theorem FCells.elem {w:World}:∀{L:List (Str×DFile)}{cs:List Value},FCells X w cs L→∀i (h:i<L.length),∃b,cs[i*3]? = some (.string ⟨L[i].1.toArray⟩)∧cs[i*3+1]? = some b∧cs[i*3+2]? = some (.int .i64 L[i].2.synced)∧BsX X w b L[i].2.bytes
 |[],_,_,i,h=>absurd h (by simp)
 |_::L,_,⟨b,cs',h1,h2,h3⟩,0,_=>⟨b,by rw[h1];rfl,by rw[h1];rfl,by rw[h1];rfl,h2⟩
 |_::L,_,⟨b,cs',h1,h2,h3⟩,i+1,h=>by
  obtain⟨b',e1,e2,e3,e4⟩:=FCells.elem h3 i (by simpa using h)
  refine⟨b',?_,?_,?_,e4⟩
  ·rw[h1,show (i+1)*3=i*3+3 by omega];exact e1
  ·rw[h1,show (i+1)*3+1=i*3+1+3 by omega];exact e2
  ·rw[h1,show (i+1)*3+2=i*3+2+3 by omega];exact e3
theorem FCells.one_cell {w:World}:∀{L:List (Str×DFile)}{cs:List Value},FCells X w cs L→∀u∈cs,u.oneCell'=true
 |[],_,h,u,hu=>by rw[show _=[] from h]at hu;cases hu
 |_::L,_,⟨b,cs',h1,h2,h3⟩,u,hu=>by
  rw[h1]at hu
  simp only[List.mem_cons]at hu
  rcases hu with rfl|rfl|rfl|hu
  ·rfl
  ·obtain⟨a,c,rfl,-⟩:=h2.len;rfl
  ·rfl
  ·exact FCells.one_cell h3 u hu
def FL (X:Nat→Prop) (w:World) (v:Value) (L:List (Str×DFile)):Prop:=∃cs,SrcV 3 w v L.length cs∧FCells X w cs L∧(L≠[]→∀g,v.ownBlock=some g→X g)
theorem FL.nw {w w':World}{v:Value}{L:List (Str×DFile)}(h:FL X w v L) (hw:Nw w w'):FL X w' v L:=by
 obtain⟨cs,h1,h2,h3⟩:=h
 exact⟨cs,h1.nw hw,h2.nw hw,h3⟩
theorem FL.elem {w:World}{v:Value}{L:List (Str×DFile)}(h:FL X w v L):∃a cap,v=.slice a L.length cap∧L.length≤cap∧cap≤maxLen∧∀i (h:i<L.length),∃g o b,a=some ⟨g,o,none⟩ ∧
  w.cell? ⟨g,o+i*3,none⟩=some (.string ⟨L[i].1.toArray⟩)∧w.cell? ⟨g,o+i*3+1,none⟩=some b∧w.cell? ⟨g,o+i*3+2,none⟩=some (.int .i64 L[i].2.synced)∧BsX X w b L[i].2.bytes:=by
 obtain⟨cs,⟨h0,⟨a,rfl,hn⟩|⟨g,o,cap,rfl,h1,h2,h3,h4⟩⟩,hF,-⟩:=h
 ·obtain rfl:L=[]:=List.eq_nil_of_length_eq_zero hn
  exact⟨a,0,rfl,by simp,by simp,fun i hi=>absurd hi (by simp)⟩
 ·refine⟨_,cap,rfl,h1,h2,fun i hi=>?_⟩
  obtain⟨b,e1,e2,e3,e4⟩:=hF.elem i hi
  have key:∀j u,cs[j]? = some u→w.cell? ⟨g,o+j,none⟩=some u:=fun j u hj=>by
   obtain⟨hlt,he⟩:=List.getElem?_eq_some_iff.1 hj
   rw[h4 j hlt,he]
  exact⟨g,o,b,rfl,key _ _ e1,by rw[Nat.add_assoc];exact key _ _ e2,by rw[Nat.add_assoc];exact key _ _ e3,e4⟩
def RefD (X:Nat→Prop) (w:World) (v:Value) (r:Dsk):Prop:=∃sv,v=.agg #[.int .i64 r.most,sv,.int .i64 r.arm,.bool r.down]∧FL X w sv r.files
theorem RefD.nw {w w':World}{v:Value}{r:Dsk}(h:RefD X w v r) (hw:Nw w w'):RefD X w' v r:=by
 obtain⟨sv,h1,h2⟩:=h
 exact⟨sv,h1,h2.nw hw⟩
def RefB (X:Nat→Prop) (wb w:World) (v:Value) (r:Dsk):Prop:=∃sv cs,v=.agg #[.int .i64 r.most,sv,.int .i64 r.arm,.bool r.down]∧SrcV 3 w sv r.files.length cs∧FCells X wb cs r.files
def RefN (X:Nat→Prop) (wb w0 w:World) (v:Value) (r:Dsk):Prop:=∃sv cs,v=.agg #[.int .i64 r.most,sv,.int .i64 r.arm,.bool r.down]∧SrcV 3 w sv r.files.length cs∧FCells X wb cs r.files∧∀g,sv.ownBlock=some g→w0.heap.size≤g
theorem RefN.b {wb w0 w:World}{v:Value}{r:Dsk}(h:RefN X wb w0 w v r):RefB X wb w v r:=by
 obtain⟨sv,cs,h1,h2,h3,-⟩:=h
 exact⟨sv,cs,h1,h2,h3⟩
theorem RefD.b {w:World}{v:Value}{r:Dsk}(h:RefD X w v r):RefB X w w v r:=by
 obtain⟨sv,h1,cs,h2,h3,-⟩:=h
 exact⟨sv,cs,h1,h2,h3⟩
theorem RefB.nw {wb w w':World}{v:Value}{r:Dsk}(h:RefB X wb w v r) (hw:Nw w w'):RefB X wb w' v r:=by
 obtain⟨sv,cs,h1,h2,h3⟩:=h
 exact⟨sv,cs,h1,h2.nw hw,h3⟩
theorem SrcV.elem {wb w:World}{v:Value}{L:List (Str×DFile)}{cs:List Value}(hs:SrcV 3 w v L.length cs) (hF:FCells X wb cs L):∃a cap,v=.slice a L.length cap∧L.length≤cap∧cap≤maxLen∧∀i (h:i<L.length),∃g o b,a=some ⟨g,o,none⟩ ∧
  w.cell? ⟨g,o+i*3,none⟩=some (.string ⟨L[i].1.toArray⟩)∧w.cell? ⟨g,o+i*3+1,none⟩=some b∧w.cell? ⟨g,o+i*3+2,none⟩=some (.int .i64 L[i].2.synced)∧BsX X wb b L[i].2.bytes:=by
 obtain⟨h0,⟨a,rfl,hn⟩|⟨g,o,cap,rfl,h1,h2,h3,h4⟩⟩:=hs
 ·obtain rfl:L=[]:=List.eq_nil_of_length_eq_zero hn
  exact⟨a,0,rfl,by simp,by simp,fun i hi=>absurd hi (by simp)⟩
 ·refine⟨_,cap,rfl,h1,h2,fun i hi=>?_⟩
  obtain⟨b,e1,e2,e3,e4⟩:=hF.elem i hi
  have key:∀j u,cs[j]? = some u→w.cell? ⟨g,o+j,none⟩=some u:=fun j u hj=>by
   obtain⟨hlt,he⟩:=List.getElem?_eq_some_iff.1 hj
   rw[h4 j hlt,he]
  exact⟨g,o,b,rfl,key _ _ e1,by rw[Nat.add_assoc];exact key _ _ e2,by rw[Nat.add_assoc];exact key _ _ e3,e4⟩
theorem box_cells {w:World}{p:Nat}{a b c d:Value}{t:TypeId}(h:w.heap[p]? = some (.cells #[a,b,c,d] t (0,0))) :
  w.cell? ⟨p,0,none⟩=some a∧w.cell? ⟨p,1,none⟩=some b∧w.cell? ⟨p,2,none⟩=some c∧w.cell? ⟨p,3,none⟩=some d∧w.frozen? ⟨p,0,none⟩=false∧w.frozen? ⟨p,1,none⟩=false∧w.frozen? ⟨p,2,none⟩=false∧w.frozen? ⟨p,3,none⟩=false:=by
 simp[World.cell?,World.frozen?,h]
theorem box_cells3 {w:World}{p:Nat}{a b c:Value}{t:TypeId}(h:w.heap[p]? = some (.cells #[a,b,c] t (0,0))) :
  w.cell? ⟨p,0,none⟩=some a∧w.cell? ⟨p,1,none⟩=some b∧w.cell? ⟨p,2,none⟩=some c∧w.frozen? ⟨p,0,none⟩=false∧w.frozen? ⟨p,1,none⟩=false∧w.frozen? ⟨p,2,none⟩=false:=by
 simp[World.cell?,World.frozen?,h]
theorem rNew_ok (w:World) (most:Int) (h0:0≤most) (h1:most≤16777216):Calls Tryz.prog 23 #[.int .i64 most] w fun e w' =>
  e=.returned (.tuple #[.agg #[.int .i64 most,.slice none 0 0,.int .i64 (-1),.bool false],.int .i64 0])∧Nw w w':=by
 go_enter Tryz.func23,Tryz.ntmps23
 go_wp2
 refine bodyPost_ret (v:=.tuple #[.agg #[.int .i64 most,.slice none 0 0,.int .i64 (-1),.bool false],.int .i64 0]) (by simp[results,Tryz.results23,go_sem]) rfl ⟨rfl,?_⟩
 exact (Nw.refl w).alloc _
theorem rFind_ok {w:World}{v:Value}{r:Dsk}(h:RefD X w v r) (n:Str):Calls Tryz.prog 58 #[v,.string ⟨n.toArray⟩] w fun e w'=>e=.returned (.int .i64 (rfindI r.files n))∧Nw w w':=by
 obtain⟨sv,rfl,hFL⟩:=h
 obtain⟨a,cap,rfl,h1,h2,hel⟩:=hFL.elem
 obtain⟨most,L,left,down⟩:=r
 simp only at h1 h2 hel hFL ⊢
 have HE:=zH hel
 clear hel hFL
 unfold maxLen at h2
 have HN:Hid (Nw w (w.alloc (.cells #[.int .i64 most,.slice a L.length cap,.int .i64 left,.bool down] 28))):=zH ((Nw.refl w).alloc _)
 go_enter Tryz.func58,Tryz.ntmps58
 go_wp2
 go_loop [5] (fun i=>∃k:Nat,k≤L.length∧i=.int .i64 k∧∀j (h:j<L.length),j<k→L[j].1≠n) (fun i=>L.length-(intOf i).toNat)
 case atStart=>exact⟨0,Nat.zero_le _,rfl,fun j h hj=>absurd hj (by omega)⟩
 case round =>
  obtain⟨k,hk,rfl,hno⟩:=hrel
  have HNO:=zH hno
  clear hno
  by_cases hlt:k<L.length
  ·obtain⟨g,o,b,rfl,c0,-,-,-⟩:=HE.out k hlt
   have c0:=HN.out.cell c0
   by_cases hn:L[k].1=n
   ·have r:=zH (rfind_at hlt HNO.out hn)
    rw[hn]at c0
    clear hn
    go_wp2
    go_ret
    exact⟨by rw[r.out];rfl,HN.out⟩
   ·have HK:Hid (∀j (h:j<L.length),j<k+1→L[j].1≠n):=zH (fun j h hj=>by
     by_cases e:j=k
     ·subst e;exact hn
     ·exact HNO.out j h (by omega))
    generalize L[k].1=nm at *
    have hn':(nm==n)=false:=by simpa using hn
    clear hn
    go_wp2
    go_round
    case rel=>exact⟨k+1,by omega,by go_num,HK.out⟩
    case measure=>simp[intOf];omega
  ·have r:=zH (rfind_none (L:=L) (n:=n) (fun j hj=>HNO.out j hj (by omega)))
   go_wp2
   go_ret
   exact⟨by rw[r.out];rfl,HN.out⟩
theorem usedF_take (L:List (Str×DFile)) (k:Nat) (h:k<L.length):usedF (L.take (k+1))=usedF (L.take k)+L[k].2.bytes.length:=by
 rw[List.take_succ_eq_append_getElem h,usedF_append]
 simp[usedF]
theorem usedF_le (L:List (Str×DFile)) (k:Nat):usedF (L.take k)≤usedF L:=by
 have:usedF L=usedF (L.take k)+usedF (L.drop k):=by rw[←usedF_append,List.take_append_drop]
 omega
theorem rUsed_ok {w:World}{v:Value}{r:Dsk}(h:RefD X w v r) (hu:usedF r.files≤9223372036854775807):Calls Tryz.prog 51 #[v] w fun e w'=>e=.returned (.int .i64 (usedF r.files))∧Nw w w':=by
 obtain⟨sv,rfl,hFL⟩:=h
 obtain⟨a,cap,rfl,h1,h2,hel⟩:=hFL.elem
 obtain⟨most,L,left,down⟩:=r
 simp only at h1 h2 hel hFL hu ⊢
 have HE:=zH hel
 clear hel hFL
 unfold maxLen at h2
 have HN:Hid (Nw w (w.alloc (.cells #[.int .i64 most,.slice a L.length cap,.int .i64 left,.bool down] 28))):=zH ((Nw.refl w).alloc _)
 go_enter Tryz.func51,Tryz.ntmps51
 go_wp2
 go_loop [3,4] (fun s i=>∃k:Nat,k≤L.length∧i=.int .i64 k∧s=.int .i64 (usedF (L.take k))) (fun _ i=>L.length-(intOf i).toNat)
 case atStart=>exact⟨0,Nat.zero_le _,rfl,rfl⟩
 case round =>
  obtain⟨k,hk,rfl,rfl⟩:=hrel
  by_cases hlt:k<L.length
  ·obtain⟨g,o,b,rfl,-,c1,-,hb⟩:=HE.out k hlt
   have c1:=HN.out.cell c1
   obtain⟨ba,bc,rfl,-⟩:=hb.len
   have e1:=usedF_take L k hlt
   have l1:=usedF_le L (k+1)
   rw[e1]at l1
   have E1:=zH e1
   clear e1 hb
   generalize L[k].2.bytes.length=bl at *
   generalize usedF (List.take k L)=u at *
   go_wp2
   go_round
   case rel=>exact⟨k+1,by omega,by go_num,by rw[E1.out];go_num⟩
   case measure=>simp[intOf];omega
  ·have e:L.take k=L:=List.take_of_length_le (by omega)
   have E:=zH e
   clear e
   go_wp2
   go_ret
   exact⟨by rw[E.out];rfl,HN.out⟩
theorem infoFile:(Tryz.prog.info? 104).map (fun i=>(i.zero,i.size,i.bytes))=some (some (.agg #[.string ⟨#[]⟩,.slice none 0 0,.int .i64 0]),3,48):=by kernel_rfl
theorem rwithout_take (L:List (Str×DFile)) (n:Str) (k:Nat) (h:k<L.length):rwithout (L.take (k+1)) n=rwithout (L.take k) n++(if L[k].1=n then [] else [L[k]]):=by
 rw[List.take_succ_eq_append_getElem h]
 unfold rwithout
 rw[List.filter_append]
 congr 1
 by_cases e:L[k].1=n
 ·simp[e]
 ·have:(L[k].1==n)=false:=by simpa using e
  simp[this,e]
theorem rwithout_len (L:List (Str×DFile)) (n:Str):(rwithout L n).length≤L.length:=List.length_filter_le _ _
theorem rwithout_ok {wb w:World}{v:Value}{r:Dsk}(h:RefB X wb w v r) (hwb:Nw wb w) (n:Str) (hL:r.files.length≤100000) :
  Calls Tryz.prog 108 #[v,.string ⟨n.toArray⟩] w fun e w'=>∃v',e=.returned v'∧RefN X wb w w' v' { r with files:=rwithout r.files n }∧Nw w w':=by
 obtain⟨sv,cs0,rfl,hSV,hFL⟩:=h
 obtain⟨a,cap,rfl,h1,h2,hel⟩:=SrcV.elem hSV hFL
 obtain⟨most,L,left,down⟩:=r
 simp only at h1 h2 hel hL ⊢
 have HE:=zH hel
 have HWB:=zH hwb
 clear hel hFL hSV hwb
 unfold maxLen at h2
 obtain⟨i0,hi,hz0,hz1,hz2⟩:=info_parts infoFile
 have HI:=zH hi
 have HZ0:=zH hz0
 have HZ1:=zH hz1
 have HZ2:=zH hz2
 clear hi hz0 hz1 hz2
 go_enter Tryz.func108,Tryz.ntmps108
 go_wp2
 generalize hW1:(w.alloc (.cells #[.int .i64 most,.slice a L.length cap,.int .i64 left,.bool down] 28)).alloc (.cells #[.int .i64 0,.slice none 0 0,.int .i64 0,.bool false] 28)=W1
 have HN1:Hid (Nw w W1):=zH (by rw[←hW1];exact ((Nw.refl w).alloc _).alloc _)
 have HB1:Hid (W1.heap[w.heap.size]? = some (.cells #[.int .i64 most,.slice a L.length cap,.int .i64 left,.bool down] 28 (0,0))):=zH (by rw[←hW1];rw[heap_alloc_old _ _ (by simp)];exact heap_alloc_new w _)
 have HB2:Hid (W1.heap[w.heap.size+1]? = some (.cells #[.int .i64 0,.slice none 0 0,.int .i64 0,.bool false] 28 (0,0))):=zH (by rw[←hW1];have:=heap_alloc_new (w.alloc (.cells #[.int .i64 most,.slice a L.length cap,.int .i64 left,.bool down] 28)) (.cells #[.int .i64 0,.slice none 0 0,.int .i64 0,.bool false] 28);simpa using this)
 have hs1:W1.heap.size=w.heap.size+2:=by rw[←hW1];simp
 have HS1:=zH hs1
 clear hW1 hs1
 go_loopw [5,6] (fun v i wr=>∃(k:Nat) (cs:List Value),k≤L.length∧i=.int .i64 k∧Vec 3 wr v (rwithout (L.take k) n).length cs∧FCells X wb cs (rwithout (L.take k) n)∧Nw W1 wr∧∀g,v.ownBlock=some g→W1.heap.size≤g) (fun _ i _=>L.length-(intOf i).toNat)
 case atStart=>exact⟨0,[],Nat.zero_le _,rfl,Vec.nil,rfl,Nw.refl _,(fun g hg=>by cases hg)⟩
 case round =>
  obtain⟨k,cs,hk,rfl,hv,hfc,hwr,hnew⟩:=hrel
  have HV:=zH hv
  have HFC:=zH hfc
  have HW:=zH hwr
  have HNEW:=zH hnew
  clear hv hfc hwr hnew
  obtain⟨b0,b1,b2,b3,-⟩:=box_cells (HW.out.at_ HB1.out)
  by_cases hlt:k<L.length
  ·obtain⟨g,o,b,rfl,c0,c1,c2,hb⟩:=HE.out k hlt
   have hN:=HN1.out.trans HW.out
   have c0:=hN.cell c0
   have c1:=hN.cell c1
   have c2:=hN.cell c2
   obtain⟨ba,bc,rfl,-⟩:=hb.len
   have hone:FCells X wb [.string ⟨L[k].1.toArray⟩,.slice ba L[k].2.bytes.length bc,.int .i64 L[k].2.synced] [L[k]]:=FCells.one hb
   have hrt:=rwithout_take L n k hlt
   have hlen:(rwithout (L.take k) n).length≤k:=Nat.le_trans (rwithout_len _ _) (by simp;omega)
   clear hb
   generalize L[k]=x at *
   have HRT:=zH hrt
   have HONE:=zH hone
   clear hrt hone hN
   by_cases hn:x.1=n
   ·have f1:(x.1==n)=true:=by simpa using hn
    have HRT:Hid (rwithout (L.take (k+1)) n=rwithout (L.take k) n):=zH (by rw[HRT.out,if_pos hn];simp)
    clear hn
    go_wp2
    go_roundw
    case rel=>exact⟨k+1,cs,by omega,by go_num,by rw[HRT.out];exact HV.out,by rw[HRT.out];exact HFC.out,HW.out,HNEW.out⟩
    case measure=>simp[intOf];omega
   ·have f1:(x.1==n)=false:=by simpa using hn
    have HRT:Hid (rwithout (L.take (k+1)) n=rwithout (L.take k) n++[x]):=zH (by rw[HRT.out,if_neg hn])
    clear hn
    obtain⟨x1,x2,x3⟩:=x
    simp only at *
    have V2:=zH (HV.out.nw ((Nw.refl wr).alloc (.cells #[.string ⟨x1.toArray⟩,.slice ba x2.length bc,.int .i64 x3] 104)))
    have S2:Hid (SrcV 3 (wr.alloc (.cells #[.string ⟨x1.toArray⟩,.slice ba x2.length bc,.int .i64 x3] 104)) (.slice (some ⟨wr.heap.size,0,none⟩) 1 1) 1 [.string ⟨x1.toArray⟩,.slice ba x2.length bc,.int .i64 x3]):=zH (src_lit wr _ _ 3 1 1 _ rfl (Nat.le_refl 1) (by decide))
    go_wp2_with (at_builtin;refine wpList_append_vec rfl _ _ 26 rfl 104 i0 (.agg #[.string ⟨#[]⟩,.slice none 0 0,.int .i64 0]) 3 48 Tryz.underlying26 HI.out HZ0.out HZ1.out HZ2.out rfl (by decide) rfl rfl V2.out S2.out HONE.out.one_cell ?c1 ?c2 ?_)
    case c1=>simp[maxLen];omega
    case c2=>omega
    intro v' w' hv' ho hf
    have HV':=zH hv'
    have HO:=zH ho
    have HF':=zH hf
    clear hv' ho hf
    have HW':Hid (Nw W1 w'):=zH ((HW.out.trans ((Nw.refl wr).alloc _)).trans' HO.out (fun k hk e=>by have:=HNEW.out k e;omega))
    go_wp2
    go_roundw
    case rel=>exact⟨k+1,cs++[.string ⟨x1.toArray⟩,.slice ba x2.length bc,.int .i64 x3],by omega,by go_num,by rw[HRT.out,List.length_append];exact HV'.out,by rw[HRT.out];exact HFC.out.append HONE.out,HW'.out,(fun g hg=>by
     rcases HF'.out with hf|hf
     ·exact HNEW.out g (hf▸hg)
     ·have:=hf g hg;have:=HW.out.size;simp at *;omega)⟩
    case measure=>simp[intOf];omega
  ·have e:L.take k=L:=List.take_of_length_le (by omega)
   rw[e]at HV HFC
   obtain⟨va,vc,hvv,-⟩:=HV.out.len
   subst hvv
   obtain⟨-,-,-,-,bf0,bf1,bf2,bf3⟩:=box_cells (HW.out.at_ HB1.out)
   obtain⟨r0,r1,r2,r3,rf0,rf1,rf2,rf3⟩:=box_cells (HW.out.at_ HB2.out)
   have hsz:w.heap.size+1<wr.heap.size:=by have:=HW.out.size;have:=HS1.out;omega
   clear e
   go_wp2
   refine bodyPost_ret (v:=.agg #[.int .i64 most,.slice va (rwithout L n).length vc,.int .i64 left,.bool down]) (by simp[results,Tryz.results108,go_sem,r0,r1,r2,r3]) rfl ?_
   have HO:Only (fun k=>k=w.heap.size∨k=w.heap.size+1) wr (((((wr.setCell ⟨w.heap.size,1,none⟩ (.slice va (rwithout L n).length vc)).setCell ⟨w.heap.size+1,0,none⟩ (.int .i64 most)).setCell ⟨w.heap.size+1,1,none⟩ (.slice va (rwithout L n).length vc)).setCell ⟨w.heap.size+1,2,none⟩ (.int .i64 left)).setCell ⟨w.heap.size+1,3,none⟩ (.bool down)):=
    ((((((Only.refl wr).setCell (fun _=>.inl rfl) _).setCell (fun _=>.inr rfl) _).setCell (fun _=>.inr rfl) _).setCell (fun _=>.inr rfl) _).setCell (fun _=>.inr rfl) _)
   have hN:=(HN1.out.trans HW.out).trans' HO (fun k hk e=>by rcases e with rfl|rfl <;> omega)
   refine⟨_,rfl,⟨_,_,rfl,(HV.out.keep HO.size (fun g hg=>HO.block g (HV.out.lt g hg) (fun e=>?_))).src,HFC.out,fun g hg=>?_⟩,hN⟩
   ·have:=HNEW.out g hg
    have:=HS1.out
    omega
   ·have:=HNEW.out g hg
    have:=HS1.out
    omega
end
end Go.Proofs.YtkbenkldfehhlaaGreatDoor
