/-
  Texts merged by a program of this claim's: LogPlain, Calm, Segs, ReadPlain.
-/
import Derived.Test.YtkbenkldfehhlaaGreatDoorM1
import Derived.Test.YtkbenkldfehhlaaGreatDoorM5
import Derived.Lib.ItoaNum
import Derived.Lib.ItoaLen
namespace Go.Proofs.YtkbenkldfehhlaaGreatDoor
open Go
def bitStep (k r out:Nat):Nat:=if r / 2 ^ k % 2=1 then out ^^^ (3988292384 / 2 ^ (3-k)) else out
def halfN (r:Nat):Nat:=bitStep 3 r (bitStep 2 r (bitStep 1 r (bitStep 0 r (r / 16))))
def crcGo (r:Nat) (l:List UInt8):Nat:=l.foldl (fun r c=>halfN (halfN (r ^^^ c.toNat))) r
def crcN (l:List UInt8):Nat:=4294967295-crcGo 4294967295 l
def sumB (l:List UInt8):List UInt8:=[UInt8.ofNat (crcN l / 16777216),UInt8.ofNat (crcN l / 65536),UInt8.ofNat (crcN l / 256),UInt8.ofNat (crcN l)]
theorem sumB_len (l:List UInt8):(sumB l).length=4:=rfl
theorem bitStep_lt {k r out:Nat}(h:out<4294967296):bitStep k r out<4294967296:=by
 unfold bitStep
 split
 ·refine Nat.xor_lt_two_pow (n:=32) h (Nat.lt_of_le_of_lt (Nat.div_le_self _ _) (by decide))
 ·exact h
theorem halfN_lt {r:Nat}(h:r<4294967296):halfN r<4294967296:=by
 unfold halfN
 exact bitStep_lt (bitStep_lt (bitStep_lt (bitStep_lt (by omega))))
theorem crcGo_lt:∀(l:List UInt8) (r:Nat),r<4294967296→crcGo r l<4294967296
 |[],_,h=>h
 |c::l,r,h=>crcGo_lt l _ (halfN_lt (halfN_lt (Nat.xor_lt_two_pow (n:=32) h (Nat.lt_trans c.toNat_lt (by decide)))))
theorem crcN_lt (l:List UInt8):crcN l<4294967296:=by unfold crcN;omega
structure Pc where
 name:Str
 first:Int
 count:Int
 dense:Bool
deriving DecidableEq
def Pc.zero:Pc:=⟨[],0,0,false⟩
def manifestS:Str:=[109,97,110,105,102,101,115,116]
def nextS:Str:=[109,97,110,105,102,101,115,116,46,110,101,119]
def okPiece (s:Str):Bool:=okName s && decide (s≠manifestS) && decide (s≠nextS)
def rightFrom:List Str→Int→List Pc→Bool
 |_,_,[]=>true
 |seen,first,p::l=>okPiece p.name && !decide (p.name∈seen) && decide (p.first=first) && (if l=[] then decide (p.count=0) && !p.dense else decide (1≤p.count) && decide (p.count≤1099511627776)) && rightFrom (p.name::seen) (first+p.count) l
def rightL (l:List Pc):Bool:=decide (1≤l.length) && decide (l.length≤100) && rightFrom [] 0 l
def blobB (b:List UInt8):List UInt8:=uintB b.length++b
def pieceB (p:Pc):List UInt8:=blobB p.name++uintB p.first.toNat++uintB p.count.toNat++[if p.dense then 1 else 0]
def manifestIn (l:List Pc):List UInt8:=[65,77,77,49]++uintB l.length++l.flatMap pieceB
def manifestB (l:List Pc):List UInt8:=sealB sumB (manifestIn l)
def headB (n:Nat):List UInt8:=sealB sumB ([65,77,83,49]++uintB n)
abbrev frmB (l:List Ev):List UInt8:=frameB sumB l
def segName (n:Nat):Str:=115::Lib.decDigits n
def andThen (r:Dsk×Int) (f:Dsk→Dsk×Int):Dsk×Int:=if r.2=0 then f r.1 else r
def Dsk.gone (d:Dsk) (n:Str):Dsk×Int:=((d.remove n).1,if (d.remove n).2=13 then 0 else (d.remove n).2)
def Dsk.fresh (d:Dsk) (n:Str) (b:List UInt8):Dsk×Int:=andThen (andThen (d.gone n) (·.append n b)) (·.sync n)
def Dsk.install (d:Dsk) (l:List Pc):Dsk×Int:=if rightL l then andThen (d.fresh nextS (manifestB l)) (·.rename nextS manifestS) else (d,14)
def Dsk.begun (d:Dsk) (n:Nat):Dsk×Int:=d.fresh (segName n) (headB n)
structure Lg where
 size:Int
 l:List Pc
 n:Nat
 acked:Nat
 bytes:Nat
 over:Bool
def lastP (l:List Pc):Pc:=l.getLastD Pc.zero
structure LgR where
 d:Dsk
 L:Lg
 e:Int
def morePcs (L:Lg):List Pc:=L.l.dropLast++[{ lastP L.l with count:=L.n-(lastP L.l).first },⟨segName L.n,L.n,0,false⟩]
def Lg.another (L:Lg) (d:Dsk):LgR:=
 if 100≤L.l.length then ⟨d,L,5⟩ else
 if (d.sync (lastP L.l).name).2≠0 then ⟨(d.sync (lastP L.l).name).1,L,(d.sync (lastP L.l).name).2⟩ else
 if ((d.sync (lastP L.l).name).1.begun L.n).2≠0 then ⟨((d.sync (lastP L.l).name).1.begun L.n).1,{ L with acked:=L.n },((d.sync (lastP L.l).name).1.begun L.n).2⟩ else
 if (((d.sync (lastP L.l).name).1.begun L.n).1.install (morePcs L)).2≠0 then ⟨(((d.sync (lastP L.l).name).1.begun L.n).1.install (morePcs L)).1,{ L with acked:=L.n },(((d.sync (lastP L.l).name).1.begun L.n).1.install (morePcs L)).2⟩ else
 ⟨(((d.sync (lastP L.l).name).1.begun L.n).1.install (morePcs L)).1,{ L with acked:=L.n,l:=morePcs L,bytes:=(headB L.n).length },0⟩
def Lg.roomed (L:Lg) (d:Dsk):LgR:=if (lastP L.l).first<L.n∧L.size≤L.bytes then L.another d else ⟨d,L,0⟩
def Lg.put (L:Lg) (d:Dsk) (es:List Ev):LgR:=
 if (d.append (lastP L.l).name (frmB es)).2≠0 then ⟨(d.append (lastP L.l).name (frmB es)).1,{ L with over:=true },(d.append (lastP L.l).name (frmB es)).2⟩
 else ⟨(d.append (lastP L.l).name (frmB es)).1,{ L with n:=L.n+es.length,bytes:=L.bytes+(frmB es).length },0⟩
def Lg.add (L:Lg) (d:Dsk) (es:List Ev):LgR:=
 if L.over then ⟨d,L,16⟩ else if es.length=0 then ⟨d,L,2⟩ else if 4096<es.length then ⟨d,L,3⟩ else
 if (L.roomed d).e≠0 then ⟨(L.roomed d).d,{ (L.roomed d).L with over:=true },(L.roomed d).e⟩ else (L.roomed d).L.put (L.roomed d).d es
def Lg.sync (L:Lg) (d:Dsk):LgR:=
 if L.over then ⟨d,L,16⟩ else
 if (d.sync (lastP L.l).name).2≠0 then ⟨(d.sync (lastP L.l).name).1,{ L with over:=true },(d.sync (lastP L.l).name).2⟩ else
 ⟨(d.sync (lastP L.l).name).1,{ L with acked:=L.n },0⟩
def newLg (size:Int):Lg:=⟨size,[⟨segName 0,0,0,false⟩],0,0,(headB 0).length,false⟩
def createD (d:Dsk) (size:Int):Dsk×Int:=
 if size<64∨16777216<size then (d,2) else
 if (d.read manifestS).2=0 then (d,14) else
 if (d.read manifestS).2≠13 then (d,(d.read manifestS).2) else
 if (d.begun 0).2≠0 then d.begun 0 else (d.begun 0).1.install (newLg size).l
section
variable {L:List (Str×DFile)}{n m:Str}{f:DFile}{d:Dsk}{b:List UInt8}
theorem nmF_setF (L:List (Str×DFile)) (n:Str) (f:DFile):namesF (setF L n f)=if n∈namesF L then namesF L else namesF L++[n]:=by
 induction L with
 |nil=>simp[setF,namesF]
 |cons x L ih =>
  obtain⟨k,g⟩:=x
  by_cases h:k=n
  ·subst h;simp[setF,namesF]
  ·simp only[setF,if_neg h]
   simp only[namesF,List.map_cons,List.mem_cons,Ne.symm h,false_or]at ih ⊢
   rw[ih]
   by_cases hm:n∈List.map Prod.fst L <;> simp[hm]
theorem fileOf_cons (k:Str) (g:DFile) (L:List (Str×DFile)) (n:Str):fileOf ((k,g)::L) n=if k=n then g else fileOf L n:=by
 simp only[fileOf,getF]
 split <;> rfl
theorem usedF_cons (x:Str×DFile) (L:List (Str×DFile)):usedF (x::L)=x.2.bytes.length+usedF L:=by simp[usedF]
theorem usedF_setF (L:List (Str×DFile)) (n:Str) (f:DFile):usedF (setF L n f)+(fileOf L n).bytes.length=usedF L+f.bytes.length:=by
 induction L with
 |nil=>simp[setF,usedF,fileOf,getF]
 |cons x L ih =>
  obtain⟨k,g⟩:=x
  by_cases h:k=n
  ·subst h;simp only[setF,if_true,usedF_cons,fileOf_cons];omega
  ·simp only[setF,if_neg h,usedF_cons,fileOf_cons];omega
theorem usedF_delF (L:List (Str×DFile)) (n:Str):usedF (delF L n)+(fileOf L n).bytes.length=usedF L:=by
 induction L with
 |nil=>simp[delF,usedF,fileOf,getF]
 |cons x L ih =>
  obtain⟨k,g⟩:=x
  by_cases h:k=n
  ·subst h;simp only[delF,if_true,usedF_cons,fileOf_cons];omega
  ·simp only[delF,if_neg h,usedF_cons,fileOf_cons];omega
theorem delF_miss (h:n∉namesF L):delF L n=L:=by
 induction L with
 |nil=>rfl
 |cons x L ih =>
  obtain⟨k,g⟩:=x
  simp only[namesF,List.map_cons,List.mem_cons,not_or]at h
  simp[delF,Ne.symm h.1,ih h.2]
theorem namesF_delF (L:List (Str×DFile)) (n:Str):namesF (delF L n)=(namesF L).erase n:=by
 induction L with
 |nil=>simp[delF,namesF]
 |cons x L ih =>
  obtain⟨k,g⟩:=x
  by_cases h:k=n
  ·subst h;simp[delF,namesF]
  ·simp only[delF,if_neg h]
   simp only[namesF,List.map_cons]at ih ⊢
   rw[ih,List.erase_cons_tail (by simpa using h)]
theorem getF_delF (hn:(namesF L).Nodup) (n m:Str):getF (delF L n) m=if n=m then none else getF L m:=by
 induction L with
 |nil=>simp[delF,getF]
 |cons x L ih =>
  obtain⟨k,g⟩:=x
  simp only[namesF,List.map_cons,List.nodup_cons]at hn
  by_cases h:k=n
  ·subst h
   simp only[delF,if_true,getF]
   by_cases h2:k=m
   ·subst h2;simp only[if_true];exact getF_miss hn.1
   ·simp[h2]
  ·simp only[delF,if_neg h,getF,ih hn.2]
   by_cases h2:k=m
   ·subst h2;simp[Ne.symm h]
   ·simp[h2]
theorem fileOf_delF (hn:(namesF L).Nodup) (n m:Str):fileOf (delF L n) m=if n=m then ⟨[],0⟩ else fileOf L m:=by
 unfold fileOf
 rw[getF_delF hn]
 split <;> rfl
theorem nodup_delF (hn:(namesF L).Nodup) (n:Str):(namesF (delF L n)).Nodup:=by rw[namesF_delF];exact hn.erase n
theorem not_mem_delF (hn:(namesF L).Nodup) (n:Str):n∉namesF (delF L n):=by rw[namesF_delF];exact fun h=>by rw[hn.mem_erase_iff]at h;exact h.1 rfl
theorem nodup_setF (hn:(namesF L).Nodup) (n:Str) (f:DFile):(namesF (setF L n f)).Nodup:=by
 rw[nmF_setF]
 split
 ·exact hn
 ·rename_i h
  rw[List.nodup_append]
  exact⟨hn,by simp,fun a ha b hb=>by simp at hb;subst hb;exact fun e=>h (e▸ha)⟩
theorem length_setF (L:List (Str×DFile)) (n:Str) (f:DFile):(setF L n f).length=if n∈namesF L then L.length else L.length+1:=by
 have:=congrArg List.length (nmF_setF L n f)
 simp only[namesF,List.length_map]at this ⊢
 rw[this]
 by_cases hm:n∈List.map Prod.fst L <;> simp[hm]
theorem length_delF (L:List (Str×DFile)) (n:Str):(delF L n).length≤L.length:=by
 have:=congrArg List.length (namesF_delF L n)
 simp only[namesF,List.length_map]at this
 rw[this]
 exact Nat.le_trans (List.length_erase_le) (by simp)
structure Calm (d:Dsk):Prop where
 up:d.down=false
 arm:d.arm = -1
 names:(namesF d.files).Nodup
theorem op_calm (h:Calm d) (act:List (Str×DFile)→List (Str×DFile)):d.op 0 act=({ d with files:=act d.files },0):=by
 obtain⟨h1,h2,-⟩:=h
 cases d
 simp only at h1 h2
 subst h1 h2
 simp[Dsk.op]
 decide
theorem op_calm_no (h:Calm d){e:Int}(he:e≠0) (act:List (Str×DFile)→List (Str×DFile)):d.op e act=(d,e):=by
 simp[Dsk.op,h.up,he]
theorem Calm.setF (h:Calm d) (n:Str) (f:DFile):Calm { d with files:=setF d.files n f }:=⟨h.up,h.arm,nodup_setF h.names n f⟩
theorem Calm.delF (h:Calm d) (n:Str):Calm { d with files:=delF d.files n }:=⟨h.up,h.arm,nodup_delF h.names n⟩
theorem Calm.same (h:Calm d) (L:List (Str×DFile)) (hn:(namesF L).Nodup):Calm { d with files:=L }:=⟨h.up,h.arm,hn⟩
theorem append_calm (h:Calm d) (hn:okName n=true) (hu:((usedF d.files+b.length:Nat):Int)≤d.most) (hf:n∈namesF d.files∨d.files.length<200) :
  d.append n b=({ d with files:=setF d.files n ⟨(fileOf d.files n).bytes++b,(fileOf d.files n).synced⟩ },0):=by
 unfold Dsk.append
 rw[show d.mayAppend n b=0 from ?_,op_calm h]
 unfold Dsk.mayAppend
 rw[if_pos hn,if_neg]
 rintro (h1|⟨h1,h2⟩)
 ·omega
 ·rcases hf with hf|hf
  ·exact h1 hf
  ·omega
theorem sync_calm (h:Calm d) (hn:n∈namesF d.files):d.sync n=({ d with files:=setF d.files n ⟨(fileOf d.files n).bytes,(fileOf d.files n).bytes.length⟩ },0):=by
 unfold Dsk.sync
 rw[show d.there n=0 by simp[Dsk.there,hn],op_calm h]
theorem gone_calm (h:Calm d) (n:Str):d.gone n=({ d with files:=delF d.files n },0):=by
 unfold Dsk.gone Dsk.remove
 by_cases hn:n∈namesF d.files
 ·rw[show d.there n=0 by simp[Dsk.there,hn],op_calm h];rfl
 ·rw[show d.there n=13 by simp[Dsk.there,hn],op_calm_no h (by decide),delF_miss hn];rfl
theorem setF_end (h:n∉namesF L) (f g:DFile):setF (setF L n f) n g=L++[(n,g)]:=by
 rw[setF_miss h,show L++[(n,f)]=L++(n,f)::[] from rfl,setF_hit h]
theorem fresh_calm (h:Calm d) (hn:okName n=true) (hu:((usedF d.files+b.length:Nat):Int)≤d.most) (hf:d.files.length<200) :
  d.fresh n b=({ d with files:=delF d.files n++[(n,⟨b,b.length⟩)] },0):=by
 have hm:=not_mem_delF h.names n
 have e0:fileOf (delF d.files n) n=⟨[],0⟩:=by rw[fileOf_delF h.names,if_pos rfl]
 unfold Dsk.fresh
 rw[gone_calm h]
 have h1:=h.delF n
 have e1:=append_calm (b:=b) h1 hn (by
  have:=usedF_delF d.files n
  simp only
  omega) (.inr (Nat.lt_of_le_of_lt (length_delF _ _) hf))
 simp only[e0,List.nil_append]at e1
 simp only[andThen,if_true,e1]
 have h2:=h1.setF n ⟨b,0⟩
 have e2:=sync_calm (n:=n) h2 (by rw[nmF_setF,if_neg hm];simp)
 simp only at e2
 rw[e2,fileOf_setF,if_pos rfl,setF_end hm]
theorem install_calm (h:Calm d){l:List Pc}(hr:rightL l=true) (hu:((usedF d.files+(manifestB l).length:Nat):Int)≤d.most) (hf:d.files.length<200) :
  d.install l=({ d with files:=setF (delF d.files nextS) manifestS ⟨manifestB l,(manifestB l).length⟩ },0):=by
 have hm:=not_mem_delF h.names nextS
 unfold Dsk.install
 rw[if_pos hr,fresh_calm h (by decide) hu hf]
 simp only[andThen,if_true]
 have h1:Calm { d with files:=delF d.files nextS++[(nextS,⟨manifestB l,(manifestB l).length⟩)] }:=h.same _ (by
  rw[←setF_miss hm]
  exact nodup_setF (nodup_delF h.names _) _ _)
 unfold Dsk.rename
 rw[if_pos (by decide),show ({ d with files:=delF d.files nextS++[(nextS,⟨manifestB l,(manifestB l).length⟩)] }:Dsk).there nextS=0 by simp[Dsk.there,namesF],op_calm h1]
 simp only[delF_hit hm,List.append_nil]
 rw[show fileOf (delF d.files nextS++[(nextS,(⟨manifestB l,(manifestB l).length⟩:DFile))]) nextS=⟨manifestB l,(manifestB l).length⟩ by simp[fileOf,getF_hit hm]]
end
theorem pieceB_len {p:Pc}(h:okPiece p.name=true) (h0:p.first.toNat<2 ^ 64) (h1:p.count.toNat<2 ^ 64):(pieceB p).length≤62:=by
 simp only[okPiece,okName,Bool.and_eq_true,decide_eq_true_eq]at h
 have hl:=h.1.1.1.2
 have a:=uintB_len p.name.length 1 (by omega) (by omega)
 have b:=uintB_len p.first.toNat 10 (by omega) (Nat.lt_trans h0 (by decide))
 have c:=uintB_len p.count.toNat 10 (by omega) (Nat.lt_trans h1 (by decide))
 simp only[pieceB,blobB,List.length_append,List.length_singleton]
 omega
theorem rightFrom_bound:∀(l:List Pc) (seen:List Str) (first:Int),rightFrom seen first l=true→0≤first→first+1099511627776*l.length<2 ^ 60 →
  ∀p∈l,okPiece p.name=true∧0≤p.first∧p.first<2 ^ 60∧0≤p.count∧p.count≤1099511627776
 |[],_,_,_,_,_,_,hp=>by cases hp
 |q::l,seen,first,h,h0,hb,p,hp=>by
  simp only[rightFrom,Bool.and_eq_true,decide_eq_true_eq]at h
  obtain⟨⟨⟨⟨h1,-⟩,h2⟩,h3⟩,h4⟩:=h
  have hc:0≤q.count∧q.count≤1099511627776:=by
   split at h3 <;> simp only[Bool.and_eq_true,decide_eq_true_eq]at h3 <;> omega
  simp only[List.length_cons]at hb
  rcases List.mem_cons.1 hp with rfl|hp
  ·refine⟨h1,?_,?_,hc⟩ <;> omega
  ·exact rightFrom_bound l _ _ h4 (by omega) (by omega) p hp
theorem rightL_bound {l:List Pc}(h:rightL l=true):1≤l.length∧l.length≤100∧∀p∈l,okPiece p.name=true∧0≤p.first∧p.first<2 ^ 60∧0≤p.count∧p.count≤1099511627776:=by
 simp only[rightL,Bool.and_eq_true,decide_eq_true_eq]at h
 exact⟨h.1.1,h.1.2,rightFrom_bound l _ _ h.2 (by omega) (by omega)⟩
theorem flat_len {l:List Pc}(h:∀p∈l,(pieceB p).length≤62):(l.flatMap pieceB).length≤62*l.length:=by
 induction l with
 |nil=>simp
 |cons p l ih =>
  have h1:=h p (by simp)
  have h2:=ih (fun q hq=>h q (by simp[hq]))
  simp only[List.flatMap_cons,List.length_append,List.length_cons]
  omega
theorem manifestB_len {l:List Pc}(h:rightL l=true):(manifestB l).length≤6209:=by
 obtain⟨h1,h2,h3⟩:=rightL_bound h
 have h4:=flat_len (l:=l) fun p hp=>by
  obtain⟨a,b,c,d,e⟩:=h3 p hp
  exact pieceB_len a (by omega) (by omega)
 have h5:=uintB_len l.length 1 (by omega) (by omega)
 simp only[manifestB,manifestIn,sealB,List.length_append,List.length_cons,List.length_nil,sumB_len]
 omega
theorem headB_len {n:Nat}(h:n<2 ^ 64):(headB n).length≤18:=by
 have:=uintB_len n 10 (by omega) (Nat.lt_trans h (by decide))
 simp only[headB,sealB,List.length_append,List.length_cons,List.length_nil,sumB_len]
 omega
def valD (l:List UInt8):Nat:=l.foldl (fun a c=>a*10+(c.toNat-48)) 0
theorem valD_dec (u:Nat):valD (Lib.decDigits u)=u:=by
 induction u using Nat.strongRecOn with
 |_ u ih =>
  rw[Lib.decDigits]
  split
  ·rename_i h
   simp only[valD,List.foldl_cons,List.foldl_nil,UInt8.toNat_ofNat']
   omega
  ·rename_i h
   have:=ih (u / 10) (by omega)
   simp only[valD,List.foldl_append,List.foldl_cons,List.foldl_nil,UInt8.toNat_ofNat']at this ⊢
   rw[this]
   omega
theorem dec_char (u:Nat):∀c∈Lib.decDigits u,okChar c=true:=by
 induction u using Nat.strongRecOn with
 |_ u ih =>
  have key:∀d,d<10→okChar (UInt8.ofNat (48+d))=true:=by decide
  rw[Lib.decDigits]
  split
  ·rename_i h
   intro c hc
   rw[List.mem_singleton]at hc
   subst hc
   exact key u h
  ·rename_i h
   intro c hc
   rcases List.mem_append.1 hc with hc|hc
   ·exact ih (u / 10) (by omega) c hc
   ·rw[List.mem_singleton]at hc
    subst hc
    exact key _ (by omega)
theorem segName_inj {a b:Nat}(h:segName a=segName b):a=b:=by
 unfold segName at h
 rw[←valD_dec a,←valD_dec b,(List.cons.inj h).2]
theorem segName_ok {n:Nat}(h:n<2 ^ 64):okPiece (segName n)=true:=by
 have hl:=Lib.nDigits_le20 n (by omega)
 have hd:=Lib.decDigits_length n
 have h1:okName (segName n)=true:=by
  unfold okName segName
  simp only[List.isEmpty_cons,Bool.not_false,Bool.true_and,List.length_cons,List.all_cons,Bool.and_eq_true,decide_eq_true_eq]
  refine⟨by omega,by decide,List.all_eq_true.2 (dec_char n)⟩
 have h2:segName n≠manifestS:=fun h=>absurd (List.cons.inj h).1 (by decide)
 have h3:segName n≠nextS:=fun h=>absurd (List.cons.inj h).1 (by decide)
 simp[okPiece,h1,h2,h3]
theorem okPiece_name {s:Str}(h:okPiece s=true):okName s=true∧s≠manifestS∧s≠nextS:=by
 simp only[okPiece,Bool.and_eq_true,decide_eq_true_eq]at h
 exact⟨h.1.1,h.1.2,h.2⟩
def sealedFrom:List Str→Int→List Pc→Bool
 |_,_,[]=>true
 |seen,first,p::l=>(okPiece p.name && !decide (p.name∈seen) && decide (p.first=first) && decide (1≤p.count) && decide (p.count≤1099511627776)) && sealedFrom (p.name::seen) (first+p.count) l
def endOf (first:Int):List Pc→Int
 |[]=>first
 |p::l=>endOf (first+p.count) l
theorem rightFrom_snoc (p:Pc):∀(l:List Pc) (seen:List Str) (first:Int),rightFrom seen first (l++[p])=true ↔
  sealedFrom seen first l=true∧okPiece p.name=true∧p.name∉seen∧p.name∉l.map Pc.name∧p.first=endOf first l∧p.count=0∧p.dense=false
 |[],seen,first=>by
  simp only[List.nil_append,rightFrom,sealedFrom,endOf,List.map_nil,Bool.and_eq_true,decide_eq_true_eq,Bool.not_eq_true',decide_eq_false_iff_not,if_true]
  simp only[List.not_mem_nil,not_false_eq_true,true_and,and_true]
  constructor
  ·rintro ⟨⟨⟨a,b⟩,c⟩,d,e⟩;exact⟨a,b,c,d,e⟩
  ·rintro ⟨a,b,c,d,e⟩;exact⟨⟨⟨a,b⟩,c⟩,d,e⟩
 |q::l,seen,first=>by
  have ih:=rightFrom_snoc p l (q.name::seen) (first+q.count)
  have hne:l++[p]≠[]:=by simp
  simp only[List.cons_append,rightFrom,sealedFrom,endOf,List.map_cons,Bool.and_eq_true,decide_eq_true_eq,Bool.not_eq_true',decide_eq_false_iff_not,if_neg hne,ih,List.mem_cons,not_or]
  constructor
  ·rintro ⟨⟨⟨⟨a,b⟩,c⟩,d,e⟩,f,g,⟨h,i⟩,j,k⟩
   exact⟨⟨⟨⟨⟨⟨a,b⟩,c⟩,d⟩,e⟩,f⟩,g,i,⟨h,j⟩,k⟩
  ·rintro ⟨⟨⟨⟨⟨⟨a,b⟩,c⟩,d⟩,e⟩,f⟩,g,i,⟨h,j⟩,k⟩
   exact⟨⟨⟨⟨a,b⟩,c⟩,d,e⟩,f,g,⟨h,i⟩,j,k⟩
theorem lastP_snoc (l:List Pc) (p:Pc):lastP (l++[p])=p:=by simp[lastP]
theorem split_last {l:List Pc}(h:l≠[]):l=l.dropLast++[lastP l]:=by
 have e:lastP l=l.getLast h:=by simp[lastP,List.getLastD_eq_getLast?,List.getLast?_eq_some_getLast h]
 rw[e];exact (List.dropLast_concat_getLast h).symm
structure RightP (A:List Pc) (p:Pc):Prop where
 few:A.length<100
 sealed_:sealedFrom [] 0 A=true
 name:okPiece p.name=true
 apart:p.name∉A.map Pc.name
 first:p.first=endOf 0 A
 count:p.count=0
 dense:p.dense=false
theorem rightL_iff (A:List Pc) (p:Pc):rightL (A++[p])=true↔RightP A p:=by
 simp only[rightL,Bool.and_eq_true,decide_eq_true_eq,rightFrom_snoc,List.length_append,List.length_singleton]
 constructor
 ·rintro ⟨⟨-,h1⟩,h2,h3,-,h4,h5,h6,h7⟩
  exact⟨by omega,h2,h3,h4,h5,h6,h7⟩
 ·rintro ⟨h1,h2,h3,h4,h5,h6,h7⟩
  exact⟨⟨by omega,by omega⟩,h2,h3,by simp,h4,h5,h6,h7⟩
def getI (b:List UInt8) (at_:Int):Int×Int×Int:=if (getU b at_).2.2=0 then (zag (getU b at_).1,(getU b at_).2.1,0) else (0,0,(getU b at_).2.2)
def getB (b:List UInt8) (at_ most:Int):List UInt8×Int×Int:=
 if (getU b at_).2.2≠0 then ([],0,(getU b at_).2.2) else
 if most<((getU b at_).1:Int) then ([],0,3) else
 if (b.length:Int)<(getU b at_).2.1+(getU b at_).1 then ([],0,11) else
 ((b.drop (getU b at_).2.1.toNat).take (getU b at_).1,(getU b at_).2.1+(getU b at_).1,0)
def unsealB (b:List UInt8):List UInt8×Int:=
 if b.length<4 then ([],11) else if sealB sumB (b.take (b.length-4))=b then (b.take (b.length-4),0) else ([],12)
def thenI (b:List UInt8) (r:Int×Int×Int):Int×Int×Int:=if r.2.2=0 then getI b r.2.1 else (0,r.2.1,r.2.2)
def getE (b:List UInt8) (at_:Int) (h:Ev):Ev×Int×Int:=
 if at_<0∨(b.length:Int)<at_ then (Ev.zero,0,2) else if at_=b.length then (Ev.zero,0,11) else
 if (thenI b (thenI b (thenI b (getI b (at_+1))))).2.2≠0 then (Ev.zero,0,(thenI b (thenI b (thenI b (getI b (at_+1))))).2.2) else
 (⟨w64 (h.thread+(getI b (at_+1)).1),b.getD at_.toNat 0,w64 (h.obj+(thenI b (getI b (at_+1))).1),w64 (h.a+(thenI b (thenI b (getI b (at_+1)))).1),w64 (h.b+(thenI b (thenI b (thenI b (getI b (at_+1))))).1)⟩,
  (thenI b (thenI b (thenI b (getI b (at_+1))))).2.1,0)
def evsFrom (b:List UInt8):Nat→Int→Ev→List Ev→Option (List Ev×Int)
 |0,at_,_,acc=>some (acc,at_)
 |n+1,at_,x,acc=>if (getE b at_ x).2.2≠0 then none else evsFrom b n (getE b at_ x).2.1 (getE b at_ x).1 (acc++[(getE b at_ x).1])
def eventsB (b:List UInt8):List Ev×Bool:=
 if (getU b 0).2.2≠0∨(getU b 0).1<1∨4096<(getU b 0).1 then ([],false) else
 match evsFrom b (getU b 0).1 (getU b 0).2.1 Ev.zero [] with
 |none=>([],false)
 |some (l,at_)=>(l,decide (at_=b.length))
def frameIn (b:List UInt8) (at_:Int):List UInt8:=(b.drop (getU b at_).2.1.toNat).take ((getU b at_).1+4)
def readFr (b:List UInt8) (at_:Int):List Ev×Int×Int:=
 if (getU b at_).2.2≠0 then ([],0,(getU b at_).2.2) else if 262144<(getU b at_).1 then ([],0,3) else
 if (b.length:Int)<(getU b at_).2.1+(getU b at_).1+4 then ([],0,11) else
 if (unsealB (frameIn b at_)).2≠0 then ([],0,(unsealB (frameIn b at_)).2) else
 if (eventsB (unsealB (frameIn b at_)).1).2 then ((eventsB (unsealB (frameIn b at_)).1).1,(getU b at_).2.1+(getU b at_).1+4,0) else ([],0,10)
def plainS:Str:=[65,77,83,49]
def magicS:Str:=[65,77,77,49]
def headR (b:List UInt8):Int×Int×Int:=
 if ¬ b.take 4 <+: plainS then (0,0,10) else
 if b.length<4 then (0,0,11) else
 if (getU b 4).2.2=0∧4611686018427387904<(getU b 4).1 then (0,0,10) else
 if (getU b 4).2.2≠0 then (0,0,(getU b 4).2.2) else
 if (b.length:Int)<(getU b 4).2.1+4 then (0,0,11) else
 if (unsealB (b.take ((getU b 4).2.1.toNat+4))).2≠0 then (0,0,(unsealB (b.take ((getU b 4).2.1.toNat+4))).2) else
 (((getU b 4).1:Int),(getU b 4).2.1+4,0)
def frs (b:List UInt8) (at_:Int) (acc:List Ev):List Ev×Int:=
 if _h:(readFr b at_).2.2=0∧at_<(readFr b at_).2.1∧(readFr b at_).2.1≤b.length then frs b (readFr b at_).2.1 (acc++(readFr b at_).1) else (acc,at_)
termination_by ((b.length:Int)-at_).toNat
decreasing_by omega
def scanB (b:List UInt8):Int×List Ev×Int×Int:=
 if (headR b).2.2≠0 then (0,[],0,(headR b).2.2) else ((headR b).1,(frs b (headR b).2.1 []).1,(frs b (headR b).2.1 []).2,0)
def pieceR (b:List UInt8) (at_:Int):Option (Pc×Int):=
 if (getB b at_ 40).2.2≠0 then none else
 if (getU b (getB b at_ 40).2.1).2.2≠0∨4611686018427387904<(getU b (getB b at_ 40).2.1).1 then none else
 if (getU b (getU b (getB b at_ 40).2.1).2.1).2.2≠0∨4611686018427387904<(getU b (getU b (getB b at_ 40).2.1).2.1).1∨(getU b (getU b (getB b at_ 40).2.1).2.1).2.1=b.length ∨
  1<(b.getD (getU b (getU b (getB b at_ 40).2.1).2.1).2.1.toNat 0).toNat then none else
 some (⟨(getB b at_ 40).1,(getU b (getB b at_ 40).2.1).1,(getU b (getU b (getB b at_ 40).2.1).2.1).1,decide (b.getD (getU b (getU b (getB b at_ 40).2.1).2.1).2.1.toNat 0=1)⟩,(getU b (getU b (getB b at_ 40).2.1).2.1).2.1+1)
def pcsFrom (b:List UInt8):Nat→Int→List Pc→Option (List Pc×Int)
 |0,at_,acc=>some (acc,at_)
 |n+1,at_,acc=>match pieceR b at_ with
  |none=>none
  |some (p,next)=>pcsFrom b n next (acc++[p])
def listedIn (b:List UInt8):List Pc×Int:=
 if ¬ magicS <+: b then ([],10) else if (getU b 4).2.2≠0 then ([],10) else
 match pcsFrom b (getU b 4).1 (getU b 4).2.1 [] with
 |none=>([],10)
 |some (l,at_)=>if at_<b.length then ([],10) else if rightL l then (l,0) else ([],14)
def listedB (b:List UInt8):List Pc×Int:=if (unsealB b).2≠0 then ([],(unsealB b).2) else listedIn (unsealB b).1
section
variable {b:List UInt8}{at_:Int}
theorem numF_bound:∀(l:List UInt8) (i acc:Nat),i≤9→acc<2 ^ (7*i)→(numF i acc l).1<2 ^ 64∧(numF i acc l).2≤(i:Int)+l.length∧(0<(numF i acc l).2→(i:Int)<(numF i acc l).2)
 |[],i,acc,_,_=>by simp[numF]
 |c::l,i,acc,hi,ha=>by
  have hc:=c.toNat_lt
  have hp:=pow_pos7 i
  unfold numF
  split
  ·refine⟨by decide,?_,fun h=>absurd h (by decide)⟩
   simp only[List.length_cons];omega
  ·rename_i h1
   split
   ·rename_i h2
    have hi':i+1≤9:=by
     rcases Nat.lt_or_ge i 9 with h|h
     ·exact h
     ·exact absurd ⟨by omega,by omega⟩ h1
    have hm:c.toNat % 128*2 ^ (7*i)≤127*2 ^ (7*i):=Nat.mul_le_mul_right _ (by omega)
    have:=numF_bound l (i+1) (acc+c.toNat % 128*2 ^ (7*i)) hi' (by rw[pow7];omega)
    refine⟨this.1,?_,fun h=>?_⟩
    ·have:=this.2.1
     simp only[List.length_cons];omega
    ·have:=this.2.2 h;omega
   ·split
    ·refine⟨by decide,?_,fun h=>absurd h (by decide)⟩
     simp only[List.length_cons];omega
    ·rename_i h2 h3
     refine⟨?_,?_,fun _=>?_⟩
     ·simp only
      rcases Nat.lt_or_ge i 9 with h|h
      ·have hm:c.toNat % 128*2 ^ (7*i)≤127*2 ^ (7*i):=Nat.mul_le_mul_right _ (by omega)
       have h9:(2:Nat) ^ (7*(i+1))≤2 ^ 63:=Nat.pow_le_pow_right (by omega) (by omega)
       rw[pow7]at h9
       have:(2:Nat) ^ 63<2 ^ 64:=by decide
       omega
      ·obtain rfl:i=9:=by omega
       have hc1:c.toNat≤1:=by
        rcases Nat.lt_or_ge 1 c.toNat with h|h
        ·exact absurd ⟨rfl,h⟩ h1
        ·exact h
       have:c.toNat % 128*2 ^ (7*9)≤1*2 ^ (7*9):=Nat.mul_le_mul_right _ (by omega)
       have e2:(2:Nat) ^ (7*9)+2 ^ (7*9)=2 ^ 64:=by decide
       omega
     ·simp only[List.length_cons];omega
     ·simp only;omega
theorem getU_fine (h:(getU b at_).2.2=0):0≤at_∧at_<(getU b at_).2.1∧(getU b at_).2.1≤b.length∧(getU b at_).1<2 ^ 64:=by
 unfold getU at h ⊢
 split at h
 ·exact absurd h (by decide)
 ·rename_i h0
  rw[if_neg h0]
  split at h
  ·exact absurd h (by decide)
  ·rename_i h1
   rw[if_neg h1]
   split at h
   ·exact absurd h (by decide)
   ·rename_i h2
    rw[if_neg h2]
    have:=numF_bound (b.drop at_.toNat) 0 0 (by omega) (by simp)
    simp only[List.length_drop]at this
    refine⟨by omega,?_,?_,this.1⟩
    ·simp only;omega
    ·simp only;omega
theorem getU_err (h:(getU b at_).2.2≠0):getU b at_=(0,0,(getU b at_).2.2)∧((getU b at_).2.2=2∨(getU b at_).2.2=11∨(getU b at_).2.2=10):=by
 unfold getU at h ⊢
 split
 ·exact⟨rfl,.inl rfl⟩
 ·split
  ·exact⟨rfl,.inr (.inl rfl)⟩
  ·split
   ·exact⟨rfl,.inr (.inr rfl)⟩
   ·rename_i h0 h1 h2
    rw[if_neg h0,if_neg h1,if_neg h2]at h
    exact absurd rfl h
theorem getI_fine (h:(getI b at_).2.2=0):0≤at_∧at_<(getI b at_).2.1∧(getI b at_).2.1≤b.length:=by
 unfold getI at h ⊢
 split
 ·rename_i h0
  obtain⟨a,b,c,-⟩:=getU_fine h0
  exact⟨a,b,c⟩
 ·rename_i h0
  rw[if_neg h0]at h
  exact absurd h h0
theorem zag_in {n:Nat}(h:n<2 ^ 64):in64 (zag n):=by
 unfold zag in64
 split <;> omega
theorem getI_in:in64 (getI b at_).1:=by
 unfold getI
 split
 ·rename_i h0
  exact zag_in (getU_fine h0).2.2.2
 ·exact⟨by show (-9223372036854775808:Int)≤0;decide,by show (0:Int)≤9223372036854775807;decide⟩
theorem thenI_fine {r:Int×Int×Int}(h:(thenI b r).2.2=0):r.2.2=0∧0≤r.2.1∧r.2.1<(thenI b r).2.1∧(thenI b r).2.1≤b.length:=by
 unfold thenI at h ⊢
 split
 ·rename_i h0
  rw[if_pos h0]at h
  exact⟨h0,getI_fine h⟩
 ·rename_i h0
  rw[if_neg h0]at h
  exact absurd h h0
theorem getE_fine {x:Ev}(h:(getE b at_ x).2.2=0):0≤at_∧at_<(getE b at_ x).2.1∧(getE b at_ x).2.1≤b.length∧(getE b at_ x).1.Ok:=by
 unfold getE at h ⊢
 split
 ·rename_i h0;rw[if_pos h0]at h;exact absurd h (by decide)
 ·rename_i h0
  rw[if_neg h0]at h
  split
  ·rename_i h1;rw[if_pos h1]at h;exact absurd h (by decide)
  ·rename_i h1
   rw[if_neg h1]at h
   split
   ·rename_i h2;rw[if_pos h2]at h;exact absurd h h2
   ·rename_i h2
    have h4:(thenI b (thenI b (thenI b (getI b (at_+1))))).2.2=0:=by
     rcases Decidable.em ((thenI b (thenI b (thenI b (getI b (at_+1))))).2.2=0) with h|h
     ·exact h
     ·exact absurd h h2
    obtain⟨a1,a2,a3,a4⟩:=thenI_fine h4
    obtain⟨b1,b2,b3,b4⟩:=thenI_fine a1
    obtain⟨c1,c2,c3,c4⟩:=thenI_fine b1
    obtain⟨d1,d2,d3⟩:=getI_fine c1
    exact⟨by omega,by simp only;omega,a4,⟨w64_in _,w64_in _,w64_in _,w64_in _⟩⟩
theorem evsFrom_fine:∀(n:Nat) (at_:Int) (x:Ev) (acc l:List Ev) (to_:Int),evsFrom b n at_ x acc=some (l,to_)→(∀e∈acc,e.Ok)→(∀e∈l,e.Ok)∧l.length=acc.length+n
 |0,at_,x,acc,l,to_,h,ha=>by
  simp only[evsFrom,Option.some.injEq,Prod.mk.injEq]at h
  obtain⟨rfl,-⟩:=h
  exact⟨ha,rfl⟩
 |n+1,at_,x,acc,l,to_,h,ha=>by
  unfold evsFrom at h
  split at h
  ·cases h
  ·rename_i he
   have hx:=getE_fine (b:=b) (at_:=at_) (x:=x) (by rcases Decidable.em ((getE b at_ x).2.2=0) with h|h;exact h;exact absurd h he)
   have:=evsFrom_fine n _ _ _ _ _ h (fun e hm=>by
    rcases List.mem_append.1 hm with hm|hm
    ·exact ha e hm
    ·rw[List.mem_singleton]at hm;subst hm;exact hx.2.2.2)
   refine⟨this.1,?_⟩
   rw[this.2];simp;omega
theorem eventsB_fine (h:(eventsB b).2=true):(∀e∈(eventsB b).1,e.Ok)∧1≤(eventsB b).1.length∧(eventsB b).1.length≤4096:=by
 unfold eventsB at h ⊢
 split
 ·rename_i h0;rw[if_pos h0]at h;cases h
 ·rename_i h0
  rw[if_neg h0]at h
  cases hc:evsFrom b (getU b 0).1 (getU b 0).2.1 Ev.zero [] with
  |none=>rw[hc]at h;cases h
  |some r =>
   obtain⟨l,to_⟩:=r
   have:=evsFrom_fine _ _ _ _ _ _ hc (fun _ h=>by cases h)
   simp only[List.length_nil,Nat.zero_add]at this
   simp only
   refine⟨this.1,?_,?_⟩
   ·omega
   ·omega
theorem readFr_fine (h:(readFr b at_).2.2=0):0≤at_∧at_<(readFr b at_).2.1∧(readFr b at_).2.1≤b.length∧(∀e∈(readFr b at_).1,e.Ok)∧1≤(readFr b at_).1.length∧(readFr b at_).1.length≤4096:=by
 unfold readFr at h ⊢
 split
 ·rename_i h0;rw[if_pos h0]at h;exact absurd h h0
 ·rename_i h0
  rw[if_neg h0]at h
  have hu:=getU_fine (b:=b) (at_:=at_) (by rcases Decidable.em ((getU b at_).2.2=0) with h|h;exact h;exact absurd h h0)
  split
  ·rename_i h1;rw[if_pos h1]at h;exact absurd h (by decide)
  ·rename_i h1
   rw[if_neg h1]at h
   split
   ·rename_i h2;rw[if_pos h2]at h;exact absurd h (by decide)
   ·rename_i h2
    rw[if_neg h2]at h
    split
    ·rename_i h3;rw[if_pos h3]at h;exact absurd h h3
    ·rename_i h3
     rw[if_neg h3]at h
     split
     ·rename_i h4
      have:=eventsB_fine h4
      exact⟨hu.1,by simp only;omega,by simp only;omega,this⟩
     ·rename_i h4
      rw[if_neg h4]at h
      exact absurd h (by decide)
theorem frs_yes (h:(readFr b at_).2.2=0) (acc:List Ev):frs b at_ acc=frs b (readFr b at_).2.1 (acc++(readFr b at_).1):=by
 have:=readFr_fine h
 rw[frs,dif_pos ⟨h,this.2.1,this.2.2.1⟩]
theorem frs_no (h:(readFr b at_).2.2≠0) (acc:List Ev):frs b at_ acc=(acc,at_):=by
 rw[frs,dif_neg (fun hc=>h hc.1)]
theorem unsealB_len (h:(unsealB b).2=0):(unsealB b).1.length+4=b.length:=by
 unfold unsealB at h ⊢
 split
 ·rename_i h0;rw[if_pos h0]at h;exact absurd h (by decide)
 ·rename_i h0
  rw[if_neg h0]at h
  split
  ·simp only[List.length_take];omega
  ·rename_i h1;rw[if_neg h1]at h;exact absurd h (by decide)
end
theorem unsealB_seal (b:List UInt8):unsealB (sealB sumB b)=(b,0):=by
 have hl:(sealB sumB b).length=b.length+4:=by simp[sealB,sumB_len]
 have ht:(sealB sumB b).take ((sealB sumB b).length-4)=b:=by rw[hl];simp[sealB]
 unfold unsealB
 rw[if_neg (by omega),ht,if_pos rfl]
theorem getU_cut (a:List UInt8) (m k:Nat) (hm:m<2 ^ 64) (hk:k<(uintB m).length):getU (a++(uintB m).take k) a.length=(0,0,11):=by
 have h:=numF_cut m 0 0 k (by omega) (by simpa using hm) hk
 unfold getU
 rw[if_neg (by simp;omega)]
 simp only[Int.toNat_natCast,List.drop_left,h,if_true]
theorem getI_at (a rest:List UInt8){n:Int}(hn:in64 n):getI (a++(intB n++rest)) a.length=(n,(((a++intB n).length:Nat):Int),0):=by
 have h:=getU_at a rest (zig n) (zig_lt hn.1 hn.2)
 unfold getI intB
 rw[h]
 simp only[if_true,zag_zig]
theorem getE_at (a rest:List UInt8){h e:Ev}(he:e.Ok):getE (a++(putE h e++rest)) a.length h=(e,(((a++putE h e).length:Nat):Int),0):=by
 obtain⟨b1,h1⟩:=zN (intB (w64 (e.thread-h.thread)))
 obtain⟨b2,h2⟩:=zN (intB (w64 (e.obj-h.obj)))
 obtain⟨b3,h3⟩:=zN (intB (w64 (e.a-h.a)))
 obtain⟨b4,h4⟩:=zN (intB (w64 (e.b-h.b)))
 have e1:getI (a++(putE h e++rest)) (a.length+1)=(w64 (e.thread-h.thread),(((a++e.op::b1).length:Nat):Int),0):=by
  have:=getI_at (a++[e.op]) (b2++b3++b4++rest) (w64_in (e.thread-h.thread))
  rw[h1]at this
  simpa [putE,h1,h2,h3,h4] using this
 have e2:getI (a++(putE h e++rest)) ((((a++e.op::b1).length:Nat):Int))=(w64 (e.obj-h.obj),(((a++e.op::b1++b2).length:Nat):Int),0):=by
  have:=getI_at (a++e.op::b1) (b3++b4++rest) (w64_in (e.obj-h.obj))
  rw[h2]at this
  simpa [putE,h1,h2,h3,h4] using this
 have e3:getI (a++(putE h e++rest)) ((((a++e.op::b1++b2).length:Nat):Int))=(w64 (e.a-h.a),(((a++e.op::b1++b2++b3).length:Nat):Int),0):=by
  have:=getI_at (a++e.op::b1++b2) (b4++rest) (w64_in (e.a-h.a))
  rw[h3]at this
  simpa [putE,h1,h2,h3,h4] using this
 have e4:getI (a++(putE h e++rest)) ((((a++e.op::b1++b2++b3).length:Nat):Int))=(w64 (e.b-h.b),(((a++e.op::b1++b2++b3++b4).length:Nat):Int),0):=by
  have:=getI_at (a++e.op::b1++b2++b3) rest (w64_in (e.b-h.b))
  rw[h4]at this
  simpa [putE,h1,h2,h3,h4] using this
 have t2:thenI (a++(putE h e++rest)) (getI (a++(putE h e++rest)) (a.length+1))=(w64 (e.obj-h.obj),(((a++e.op::b1++b2).length:Nat):Int),0):=by
  unfold thenI;rw[e1,if_pos rfl];exact e2
 have t3:thenI (a++(putE h e++rest)) (thenI (a++(putE h e++rest)) (getI (a++(putE h e++rest)) (a.length+1)))=(w64 (e.a-h.a),(((a++e.op::b1++b2++b3).length:Nat):Int),0):=by
  rw[t2];unfold thenI;rw[if_pos rfl];exact e3
 have t4:thenI (a++(putE h e++rest)) (thenI (a++(putE h e++rest)) (thenI (a++(putE h e++rest)) (getI (a++(putE h e++rest)) (a.length+1))))=(w64 (e.b-h.b),(((a++e.op::b1++b2++b3++b4).length:Nat):Int),0):=by
  rw[t3];unfold thenI;rw[if_pos rfl];exact e4
 have hlen:(a++(putE h e++rest)).length=a.length+(putE h e).length+rest.length:=by simp;omega
 have hp:0<(putE h e).length:=by simp[putE]
 unfold getE
 rw[if_neg (by omega),if_neg (by omega),t4,t3,t2,e1]
 rw[if_neg (by simp)]
 refine Prod.ext ?_ (Prod.ext ?_ rfl)
 ·simp only[w64_back he.thread,w64_back he.obj,w64_back he.a,w64_back he.b]
  have:(a++(putE h e++rest)).getD ((a.length:Int)).toNat 0=e.op:=by simp[putE,List.getD]
  rw[this]
 ·simp[putE,h1,h2,h3,h4]
theorem evsFrom_at:∀(l:List Ev) (a rest:List UInt8) (x:Ev) (acc:List Ev),(∀e∈l,e.Ok)→evsFrom (a++(putL x l++rest)) l.length a.length x acc=some (acc++l,(((a++putL x l).length:Nat):Int))
 |[],a,rest,x,acc,_=>by simp[evsFrom,putL]
 |e::l,a,rest,x,acc,h=>by
  have h1:=getE_at a (putL e l++rest) (h:=x) (h e (by simp))
  have h2:=evsFrom_at l (a++putE x e) rest e (acc++[e]) (fun y hy=>h y (by simp[hy]))
  simp only[putL,List.length_cons,List.append_assoc]at h1 h2 ⊢
  unfold evsFrom
  rw[h1]
  simp only[ne_eq,not_true_eq_false,if_false]
  rw[h2]
  simp
theorem eventsB_body {l:List Ev}(h1:1≤l.length) (h2:l.length≤4096) (h:∀e∈l,e.Ok):eventsB (bodyB l)=(l,true):=by
 have hu:=getU_at [] (putL Ev.zero l) l.length (by omega)
 simp only[List.nil_append,List.length_nil]at hu
 have he:=evsFrom_at l (uintB l.length) [] Ev.zero [] h
 simp only[List.append_nil,List.nil_append]at he
 have hz:(((0:Nat):Int))=0:=rfl
 rw[hz]at hu
 unfold eventsB bodyB
 rw[hu]
 simp only
 rw[if_neg (by
  rintro (h|h|h)
  ·exact h rfl
  ·omega
  ·omega),he]
 simp
theorem frmB_eq (l:List Ev):frmB l=uintB (bodyB l).length++sealB sumB (bodyB l):=rfl
theorem bodyB_small {l:List Ev}(h2:l.length≤4096):(bodyB l).length≤262144:=by have:=bodyB_len l h2;omega
theorem readFr_at (a rest:List UInt8){l:List Ev}(h1:1≤l.length) (h2:l.length≤4096) (h:∀e∈l,e.Ok):readFr (a++(frmB l++rest)) a.length=(l,(((a++frmB l).length:Nat):Int),0):=by
 have hb:=bodyB_small h2
 have hu:=getU_at a (sealB sumB (bodyB l)++rest) (bodyB l).length (by omega)
 have hsl:(sealB sumB (bodyB l)).length=(bodyB l).length+4:=by simp[sealB,sumB_len]
 rw[show uintB (bodyB l).length++(sealB sumB (bodyB l)++rest)=frmB l++rest by rw[frmB_eq,List.append_assoc]]at hu
 have hin:frameIn (a++(frmB l++rest)) a.length=sealB sumB (bodyB l):=by
  unfold frameIn
  rw[hu]
  simp only[Int.toNat_natCast]
  rw[show a++(frmB l++rest)=(a++uintB (bodyB l).length)++(sealB sumB (bodyB l)++rest) by rw[frmB_eq];simp,List.drop_left,←hsl,List.take_left]
 unfold readFr
 rw[hin,hu,unsealB_seal]
 have hl:(a++(frmB l++rest)).length=a.length+((uintB (bodyB l).length).length+((bodyB l).length+4))+rest.length:=by
  rw[frmB_eq];simp only[List.length_append,hsl];omega
 rw[if_neg (by simp),if_neg (by omega),if_neg (by simp only[List.length_append]at hl ⊢;omega),if_neg (by simp),eventsB_body h1 h2 h,if_pos rfl]
 refine Prod.ext rfl (Prod.ext ?_ rfl)
 rw[frmB_eq]
 simp only[List.length_append,hsl]
 omega
theorem readFr_cut (a:List UInt8){l:List Ev}(h2:l.length≤4096){k:Nat}(hk:k<(frmB l).length):readFr (a++(frmB l).take k) a.length=([],0,11):=by
 have hb:=bodyB_small h2
 have hsl:(sealB sumB (bodyB l)).length=(bodyB l).length+4:=by simp[sealB,sumB_len]
 by_cases hc:k<(uintB (bodyB l).length).length
 ·have hu:=getU_cut a (bodyB l).length k (by omega) hc
  rw[frmB_eq,List.take_append_of_le_length (by omega)]
  unfold readFr
  rw[hu,if_pos (by simp)]
 ·have hu:=getU_at a ((sealB sumB (bodyB l)).take (k-(uintB (bodyB l).length).length)) (bodyB l).length (by omega)
  have ht:(frmB l).take k=uintB (bodyB l).length++(sealB sumB (bodyB l)).take (k-(uintB (bodyB l).length).length):=by
   rw[frmB_eq,List.take_append,List.take_of_length_le (by omega)]
  rw[ht]
  unfold readFr
  rw[hu,if_neg (by simp),if_neg (by simp only;omega),if_pos]
  rw[frmB_eq,List.length_append,hsl]at hk
  simp only[List.length_append,List.length_take,hsl]
  omega
theorem readFr_end (a:List UInt8):readFr a a.length=([],0,11):=by
 have:=readFr_cut a (l:=[]) (by simp) (k:=0) (by rw[frmB_eq];have:=uintB_pos (bodyB []).length;simp;omega)
 simpa using this
theorem frs_frames:∀(fs:List (List Ev)) (a:List UInt8) (acc:List Ev) (tail:List UInt8),(∀f∈fs,1≤f.length∧f.length≤4096∧∀e∈f,e.Ok) →
  (∀a',(readFr (a'++tail) a'.length).2.2≠0)→frs (a++(fs.flatMap frmB++tail)) a.length acc=(acc++fs.flatten,(((a++fs.flatMap frmB).length:Nat):Int))
 |[],a,acc,tail,_,ht=>by
  simp only[List.flatMap_nil,List.nil_append,List.append_nil,List.flatten_nil]
  exact frs_no (ht a) acc
 |f::fs,a,acc,tail,h,ht=>by
  obtain⟨f1,f2,f3⟩:=h f (by simp)
  have h1:=readFr_at a (fs.flatMap frmB++tail) f1 f2 f3
  have h2:=frs_frames fs (a++frmB f) (acc++f) tail (fun g hg=>h g (by simp[hg])) ht
  simp only[List.flatMap_cons,List.append_assoc,List.flatten_cons]at h1 h2 ⊢
  rw[frs_yes (by rw[h1]),h1]
  simp only
  rw[h2]
theorem headR_at {n:Nat}(hn:n≤4611686018427387904) (rest:List UInt8):headR (headB n++rest)=((n:Int),(((headB n).length:Nat):Int),0):=by
 have hu:=getU_at plainS (sumB (plainS++uintB n)++rest) n (by omega)
 have hb:headB n=plainS++(uintB n++sumB (plainS++uintB n)):=by simp[headB,sealB,plainS]
 have hb2:headB n++rest=plainS++(uintB n++(sumB (plainS++uintB n)++rest)):=by rw[hb];simp
 have h4:(plainS.length:Int)=4:=rfl
 rw[h4,←hb2]at hu
 have ht:(headB n++rest).take 4=plainS:=by rw[hb2];rfl
 have hl:(headB n).length=4+(uintB n).length+4:=by rw[hb];simp[plainS,sumB_len];omega
 have hun:unsealB ((headB n++rest).take (headB n).length)=(plainS++uintB n,0):=by
  rw[List.take_left]
  exact unsealB_seal _
 unfold headR
 rw[ht,hu,if_neg (by simp),if_neg (by simp only[List.length_append];omega),if_neg (by simp only;omega),if_neg (by simp),if_neg (by simp only[List.length_append,plainS,List.length_cons,List.length_nil];omega)]
 simp only[Int.toNat_natCast]
 rw[show (plainS++uintB n).length+4=(headB n).length by rw[hl];simp[plainS];omega,hun,if_neg (by simp)]
 refine Prod.ext rfl (Prod.ext ?_ rfl)
 rw[hl]
 simp[plainS]
 omega
theorem scanB_at {n:Nat}(hn:n≤4611686018427387904) (fs:List (List Ev)) (tail:List UInt8) (h:∀f∈fs,1≤f.length∧f.length≤4096∧∀e∈f,e.Ok) (ht:∀a',(readFr (a'++tail) a'.length).2.2≠0) :
  scanB (headB n++(fs.flatMap frmB++tail))=((n:Int),fs.flatten,(((headB n++fs.flatMap frmB).length:Nat):Int),0):=by
 have h1:=headR_at hn (fs.flatMap frmB++tail)
 have h2:=frs_frames fs (headB n) [] tail h ht
 unfold scanB
 rw[h1,if_neg (by simp)]
 simp only
 rw[h2]
 simp
theorem getB_at (a rest:List UInt8) (s:List UInt8){most:Int}(hs:(s.length:Int)≤most) (hs2:s.length<2 ^ 64):getB (a++(blobB s++rest)) a.length most=(s,(((a++blobB s).length:Nat):Int),0):=by
 have hu:=getU_at a (s++rest) s.length hs2
 have hb:uintB s.length++(s++rest)=blobB s++rest:=by simp[blobB]
 rw[hb]at hu
 unfold getB
 rw[hu,if_neg (by simp),if_neg (by simp only;omega)]
 rw[if_neg (by simp only[blobB,List.length_append];omega)]
 refine Prod.ext ?_ (Prod.ext ?_ rfl)
 ·simp only[Int.toNat_natCast]
  rw[show a++(blobB s++rest)=(a++uintB s.length)++(s++rest) by simp[blobB],List.drop_left,List.take_left]
 ·simp[blobB];omega
theorem pieceR_at (a rest:List UInt8) (p:Pc) (h1:p.name.length≤40) (h2:0≤p.first∧p.first≤4611686018427387904) (h3:0≤p.count∧p.count≤4611686018427387904) :
  pieceR (a++(pieceB p++rest)) a.length=some (p,(((a++pieceB p).length:Nat):Int)):=by
 obtain⟨dz,hdz⟩:∃z:UInt8,(if p.dense then (1:UInt8) else 0)=z:=⟨_,rfl⟩
 have hpb:pieceB p=blobB p.name++(uintB p.first.toNat++(uintB p.count.toNat++[dz])):=by unfold pieceB;rw[hdz];simp
 have e1:=getB_at a (uintB p.first.toNat++(uintB p.count.toNat++(dz::rest))) p.name (most:=40) (by omega) (by omega)
 have e2:=getU_at (a++blobB p.name) (uintB p.count.toNat++(dz::rest)) p.first.toNat (by omega)
 have e3:=getU_at (a++blobB p.name++uintB p.first.toNat) (dz::rest) p.count.toNat (by omega)
 have hall:a++(pieceB p++rest)=a++(blobB p.name++(uintB p.first.toNat++(uintB p.count.toNat++(dz::rest)))):=by rw[hpb];simp
 rw[hall]
 rw[show a++blobB p.name++(uintB p.first.toNat++(uintB p.count.toNat++dz::rest))=a++(blobB p.name++(uintB p.first.toNat++(uintB p.count.toNat++(dz::rest)))) by simp]at e2
 rw[show a++blobB p.name++uintB p.first.toNat++(uintB p.count.toNat++dz::rest)=a++(blobB p.name++(uintB p.first.toNat++(uintB p.count.toNat++(dz::rest)))) by simp]at e3
 have hdd:(a++(blobB p.name++(uintB p.first.toNat++(uintB p.count.toNat++(dz::rest))))).getD (a++blobB p.name++uintB p.first.toNat++uintB p.count.toNat).length 0=dz:=by
  rw[show a++(blobB p.name++(uintB p.first.toNat++(uintB p.count.toNat++(dz::rest))))=(a++blobB p.name++uintB p.first.toNat++uintB p.count.toNat)++(dz::rest) by simp]
  simp[List.getD]
 have hd1:dz.toNat≤1:=by rw[←hdz];split <;> decide
 unfold pieceR
 rw[e1]
 simp only
 rw[e2]
 simp only
 rw[e3]
 simp only[Int.toNat_natCast]
 simp only[hdd]
 rw[if_neg (by simp),if_neg (by
  rintro (h|h)
  ·exact h rfl
  ·omega),if_neg]
 ·congr 1
  refine Prod.ext ?_ ?_
  ·simp only
   have hd2:decide (dz=1)=p.dense:=by
    rw[←hdz];cases p.dense <;> rfl
   rw[hd2,Int.toNat_of_nonneg h2.1,Int.toNat_of_nonneg h3.1]
  ·simp only[hpb,List.length_append,List.length_cons,List.length_nil];omega
 ·rintro (h|h|h|h)
  ·exact h rfl
  ·omega
  ·simp only[List.length_append,List.length_cons]at h;omega
  ·omega
theorem pcsFrom_at:∀(l:List Pc) (a rest:List UInt8) (acc:List Pc),(∀p∈l,p.name.length≤40∧(0≤p.first∧p.first≤4611686018427387904)∧0≤p.count∧p.count≤4611686018427387904) →
  pcsFrom (a++(l.flatMap pieceB++rest)) l.length a.length acc=some (acc++l,(((a++l.flatMap pieceB).length:Nat):Int))
 |[],a,rest,acc,_=>by simp[pcsFrom]
 |p::l,a,rest,acc,h=>by
  obtain⟨p1,p2,p3⟩:=h p (by simp)
  have h1:=pieceR_at a (l.flatMap pieceB++rest) p p1 p2 p3
  have h2:=pcsFrom_at l (a++pieceB p) rest (acc++[p]) (fun q hq=>h q (by simp[hq]))
  simp only[List.flatMap_cons,List.length_cons,List.append_assoc]at h1 h2 ⊢
  unfold pcsFrom
  rw[h1]
  simp only
  rw[h2]
  simp
theorem listedB_at {l:List Pc}(h:rightL l=true):listedB (manifestB l)=(l,0):=by
 obtain⟨h1,h2,h3⟩:=rightL_bound h
 have hu:=getU_at magicS (l.flatMap pieceB) l.length (by omega)
 have hm:manifestIn l=magicS++(uintB l.length++l.flatMap pieceB):=by simp[manifestIn,magicS]
 have h4:(magicS.length:Int)=4:=rfl
 rw[←hm,h4]at hu
 have hp:=pcsFrom_at l (magicS++uintB l.length) [] [] (fun p hp=>by
  obtain⟨a,b,c,d,e⟩:=h3 p hp
  have ha:=(okPiece_name a).1
  simp only[okName,Bool.and_eq_true,decide_eq_true_eq]at ha
  exact⟨ha.1.2,⟨b,by omega⟩,d,by omega⟩)
 simp only[List.append_nil,List.nil_append]at hp
 rw[show magicS++uintB l.length++l.flatMap pieceB=manifestIn l by rw[hm];simp]at hp
 have hpre:magicS <+: manifestIn l:=by rw[hm];exact List.prefix_append _ _
 unfold listedB manifestB
 rw[unsealB_seal,if_neg (by simp)]
 simp only
 unfold listedIn
 rw[if_neg (by simp[hpre]),hu,if_neg (by simp)]
 simp only
 rw[hp]
 simp only
 rw[if_neg (by omega),if_pos h]
end Go.Proofs.YtkbenkldfehhlaaGreatDoor
