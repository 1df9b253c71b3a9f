/-
  Texts merged by a program of this claim's: PiecesPlain, RecPlain, RecKeep, RecCalm.
-/
import Derived.Test.YtkbenkldfehhlaaGreatDoorM24
namespace Go.Proofs.YtkbenkldfehhlaaGreatDoor
open Go
section
variable {size:Int}{c:Nat}{d:Dsk}{L:Lg}
end
section
variable {size:Int}{c:Nat}{d:Dsk}{L:Lg}{all:List Ev}
end
section
variable (U:List UInt8→Int×List Ev×Int)
def readFl (d:Dsk) (n:Str):List UInt8×Int:=((d.read n).1,if (d.read n).2=13 then 14 else (d.read n).2)
def segR (dense:Bool) (b:List UInt8):Int×List Ev×Int×Int:=if dense then ((U b).1,(U b).2.1,(b.length:Int),(U b).2.2) else scanB b
def segBad (p:Pc) (op:Bool) (b:List UInt8):Prop:=
 (segR U p.dense b).2.2.2≠0∨(segR U p.dense b).1≠p.first∨(op=false∧((segR U p.dense b).2.2.1<b.length∨((segR U p.dense b).2.1.length:Int)≠p.count))
instance (p:Pc) (op:Bool) (b:List UInt8):Decidable (segBad U p op b):=by unfold segBad;exact inferInstance
def pieceD (d:Dsk) (p:Pc) (op:Bool):List Ev×Int×Int:=
 if (readFl d p.name).2≠0 then ([],0,(readFl d p.name).2) else
 if segBad U p op (readFl d p.name).1 then ([],0,14) else ((segR U p.dense (readFl d p.name).1).2.1,(segR U p.dense (readFl d p.name).1).2.2.1,0)
def pcsD (d:Dsk):List Pc→List Ev→Int→List Ev×Int×Int
 |[],out,good=>(out,good,0)
 |q::l,out,_=>if (pieceD U d q (decide (l=[]))).2.2≠0 then ([],0,(pieceD U d q (decide (l=[]))).2.2) else pcsD d l (out++(pieceD U d q (decide (l=[]))).1) (pieceD U d q (decide (l=[]))).2.1
structure ScanR where
 es:List Ev
 ps:List Pc
 good:Int
 e:Int
def scanD (d:Dsk):ScanR:=
 if (d.read manifestS).2=13 then ⟨[],[],0,0⟩ else if (d.read manifestS).2≠0 then ⟨[],[],0,(d.read manifestS).2⟩ else
 if (listedB (d.read manifestS).1).2≠0 then ⟨[],[],0,14⟩ else
 if (pcsD U d (listedB (d.read manifestS).1).1 [] 0).2.2≠0 then ⟨[],[],0,(pcsD U d (listedB (d.read manifestS).1).1 [] 0).2.2⟩ else
 ⟨(pcsD U d (listedB (d.read manifestS).1).1 [] 0).1,(listedB (d.read manifestS).1).1,(pcsD U d (listedB (d.read manifestS).1).1 [] 0).2.1,0⟩
end
def rmAll (stays:List Str):List Str→Dsk→Dsk×Int
 |[],d=>(d,0)
 |n::l,d=>if n∈stays then rmAll stays l d else if (d.remove n).2≠0 then d.remove n else rmAll stays l (d.remove n).1
def cutD (d:Dsk) (ps:List Pc) (good:Int):Dsk×Int:=
 if ps≠[]∧good<((fileOf d.files (lastP ps).name).bytes.length:Int) then d.cut (lastP ps).name good else (d,0)
def staysOf (ps:List Pc):List Str:=manifestS::ps.map Pc.name
structure MendR where
 d:Dsk
 es:List Ev
 ps:List Pc
 e:Int
def mendWith (d:Dsk) (r:ScanR):MendR:=
 if r.e≠0 then ⟨d,[],[],r.e⟩ else if (cutD d r.ps r.good).2≠0 then ⟨(cutD d r.ps r.good).1,[],[],(cutD d r.ps r.good).2⟩ else
 if (rmAll (staysOf r.ps) (cutD d r.ps r.good).1.list (cutD d r.ps r.good).1).2≠0 then ⟨(rmAll (staysOf r.ps) (cutD d r.ps r.good).1.list (cutD d r.ps r.good).1).1,[],[],(rmAll (staysOf r.ps) (cutD d r.ps r.good).1.list (cutD d r.ps r.good).1).2⟩ else
 ⟨(rmAll (staysOf r.ps) (cutD d r.ps r.good).1.list (cutD d r.ps r.good).1).1,r.es,r.ps,0⟩
def mendD (U:List UInt8→Int×List Ev×Int) (d:Dsk):MendR:=mendWith d (scanD U d)
structure OpenR where
 d:Dsk
 L:Lg
 es:List Ev
 e:Int
def openD (U:List UInt8→Int×List Ev×Int) (d:Dsk) (size:Int):OpenR:=
 if size<64∨16777216<size then ⟨d,newLg size,[],2⟩ else
 if (mendD U d).e≠0 then ⟨(mendD U d).d,newLg size,[],(mendD U d).e⟩ else
 if (mendD U d).ps=[] then
  if (createD (mendD U d).d size).2≠0 then ⟨(createD (mendD U d).d size).1,newLg size,[],(createD (mendD U d).d size).2⟩ else ⟨(createD (mendD U d).d size).1,newLg size,(mendD U d).es,0⟩
 else
  if (resumeD (mendD U d).d size (mendD U d).ps (mendD U d).es.length).2≠0 then ⟨(resumeD (mendD U d).d size (mendD U d).ps (mendD U d).es.length).1,newLg size,[],(resumeD (mendD U d).d size (mendD U d).ps (mendD U d).es.length).2⟩
  else ⟨(resumeD (mendD U d).d size (mendD U d).ps (mendD U d).es.length).1,onLg (mendD U d).d size (mendD U d).ps (mendD U d).es.length,(mendD U d).es,0⟩
def FOk (f:List Ev):Prop:=1≤f.length∧f.length≤4096∧∀e∈f,e.Ok
def Torn (t:List UInt8):Prop:=t=[]∨∃f j,FOk f∧j<(frmB f).length∧t=(frmB f).take j
theorem Torn.none {t:List UInt8}(h:Torn t) (a':List UInt8):(readFr (a'++t) a'.length).2.2≠0:=by
 rcases h with rfl|⟨f,j,h1,h2,rfl⟩
 ·rw[List.append_nil,readFr_end];simp
 ·rw[readFr_cut a' h1.2.1 h2];simp
structure TIn (Wh:Pc→List UInt8→List Ev→Prop) (F:List (Str×DFile)) (l A:List Pc) (p:Pc) (old:List Ev) (fs:List (List Ev)) (t:List UInt8) (m:Nat):Prop where
 nd:(namesF F).Nodup
 l_:l=A++[p]
 right:RightP A p
 man:fileOf F manifestS=⟨manifestB l,(manifestB l).length⟩
 old_:sealedF Wh F A old
 open_:∃s,fileOf F p.name=⟨segB p.first.toNat fs++t,s⟩∧(segB p.first.toNat (fs.take m)).length≤s
 m_:m≤fs.length
 fr:FrOk fs
 torn:Torn t
 first:p.first=old.length
 free:∀k:Nat,p.first<k→segName k∉l.map Pc.name
 pname:p.name=segName p.first.toNat
def dName (n:Nat):Str:=100::Lib.decDigits n
def NameOk (q:Pc):Prop:=(q.dense=false→q.name=segName q.first.toNat)∧(q.dense=true→q.first=0∧q.name=dName q.count.toNat)
def WholeU (U:List UInt8→Int×List Ev×Int) (q:Pc) (b:List UInt8) (es:List Ev):Prop:=segR U q.dense b=(q.first,es,(b.length:Int),0)∧q.count=es.length∧b≠[]∧NameOk q
section
variable {Wh:Pc→List UInt8→List Ev→Prop}{F F':List (Str×DFile)}{l A:List Pc}{p:Pc}{old:List Ev}{fs:List (List Ev)}{t:List UInt8}{m:Nat}{L:Lg}{all:List Ev}
theorem TIn.rightL (h:TIn Wh F l A p old fs t m):rightL l=true:=by rw[h.l_];exact (rightL_iff A p).2 h.right
end
section
variable {U:List UInt8→Int×List Ev×Int}{d:Dsk}{l A:List Pc}{p:Pc}{old told:List Ev}{fs:List (List Ev)}{t:List UInt8}{m sure:Nat}{L:Lg}{all:List Ev}{F F':List (Str×DFile)}{Wh:Pc→List UInt8→List Ev→Prop}
theorem readFl_of (hd:d.down=false){n:Str}{b:List UInt8}(hb:(fileOf d.files n).bytes=b) (hne:b≠[]):readFl d n=(b,0):=by
 unfold readFl;rw[read_of hd hb hne];simp
theorem pcsD_sealed (hd:d.down=false) (p:Pc):∀(A:List Pc) (out es:List Ev) (g:Int),sealedF (WholeU U) d.files A es→pcsD U d (A++[p]) out g=pcsD U d [p] (out++es) 0
 |[],out,es,g,h=>by
  obtain rfl:es=[]:=h
  simp[pcsD]
 |q::A,out,es,g,⟨b,e1,e2,h1,⟨h2,h2',hne,_⟩,h3,h4⟩=>by
  have hr:=readFl_of hd (congrArg DFile.bytes h1) hne
  have hn:decide (A++[p]=[])=false:=by simp
  have hp:pieceD U d q false=(e1,(b.length:Int),0):=by
   unfold pieceD
   rw[hr,if_neg (by simp),if_neg]
   ·simp only;rw[h2]
   ·unfold segBad
    simp only
    rw[h2]
    rintro (h|h|⟨-,h|h⟩)
    ·exact h rfl
    ·exact h rfl
    ·exact absurd h (by simp)
    ·exact h h2'.symm
  rw[List.cons_append]
  conv=>lhs;unfold pcsD
  rw[hn,hp,if_neg (by simp)]
  simp only
  rw[pcsD_sealed hd p A _ e2 _ h4,h3,List.append_assoc]
theorem seg_ne (n:Nat) (fs:List (List Ev)) (t:List UInt8):segB n fs++t≠[]:=by
 have:=headB_ne n
 intro hc
 exact this (List.append_eq_nil_iff.1 (List.append_eq_nil_iff.1 hc).1).1
theorem TIn.scan1 (h:TIn Wh F l A p old fs t m):scanB (segB p.first.toNat fs++t)=(p.first,fs.flatten,((segB p.first.toNat fs).length:Int),0):=by
 have hb:=right_bound h.right p (by simp)
 have hsc:=scanB_at (n:=p.first.toNat) (by omega) fs t h.fr h.torn.none
 have e:segB p.first.toNat fs++t=headB p.first.toNat++(fs.flatMap frmB++t):=by simp[segB]
 rw[e,hsc]
 simp only[segB,Prod.mk.injEq,and_true]
 omega
theorem TIn.scan (hd:d.down=false) (h:TIn (WholeU U) d.files l A p old fs t m):scanD U d=⟨old++fs.flatten,l,((segB p.first.toNat fs).length:Int),0⟩:=by
 have hr:=read_of hd (congrArg DFile.bytes h.man) (manifestB_ne _)
 obtain⟨s,ho,hs⟩:=h.open_
 have hr2:=readFl_of hd (congrArg DFile.bytes ho) (seg_ne _ _ _)
 have hsc:=h.scan1
 have hseg:segR U p.dense (segB p.first.toNat fs++t)=(p.first,fs.flatten,((segB p.first.toNat fs).length:Int),0):=by
  unfold segR;rw[h.right.dense];simpa using hsc
 have hp:pieceD U d p true=(fs.flatten,((segB p.first.toNat fs).length:Int),0):=by
  unfold pieceD
  rw[hr2,if_neg (by simp),if_neg]
  ·simp only;rw[hseg]
  ·unfold segBad
   simp only
   rw[hseg]
   rintro (h|h|⟨h,-⟩)
   ·exact h rfl
   ·exact h rfl
   ·cases h
 have hall:pcsD U d l [] 0=(old++fs.flatten,((segB p.first.toNat fs).length:Int),0):=by
  rw[h.l_,pcsD_sealed hd p A [] old 0 h.old_]
  unfold pcsD
  rw[show decide (([]:List Pc)=[])=true by simp,hp,if_neg (by simp)]
  simp[pcsD]
 unfold scanD
 rw[hr]
 simp only
 rw[listedB_at h.rightL]
 simp only
 rw[hall]
 simp
theorem read_no (hd:d.down=false){n:Str}(h:n∉namesF d.files):d.read n=([],13):=by
 unfold Dsk.read
 rw[hd,(getF_none _ _).2 h]
 rfl
theorem scan_no (hd:d.down=false) (h:manifestS∉namesF d.files):scanD U d=⟨[],[],0,0⟩:=by
 unfold scanD
 rw[read_no hd h]
 simp
end
section
variable {U:List UInt8→Int×List Ev×Int}{d:Dsk}{l A:List Pc}{p:Pc}{old told:List Ev}{fs:List (List Ev)}{t:List UInt8}{m sure:Nat}{F F':List (Str×DFile)}{Wh:Pc→List UInt8→List Ev→Prop}
theorem remove_calm (h:Calm d){n:Str}(hn:n∈namesF d.files):d.remove n=({ d with files:=delF d.files n },0):=by
 unfold Dsk.remove
 rw[show d.there n=0 by simp[Dsk.there,hn],op_calm h]
theorem crash_calm {d:Dsk}(hn:(namesF d.files).Nodup) (ks:List Int):Calm (d.crash ks):=⟨rfl,rfl,by rw[crash_names];exact hn⟩
end
end Go.Proofs.YtkbenkldfehhlaaGreatDoor
