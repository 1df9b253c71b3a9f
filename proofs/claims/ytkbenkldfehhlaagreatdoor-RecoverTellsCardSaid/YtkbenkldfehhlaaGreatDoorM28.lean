/-
  Texts merged by a program of this claim's: RecB, PackPlain, UnpA, UnpB.
-/
import Derived.Test.YtkbenkldfehhlaaGreatDoorM27
import Derived.Test.YtkbenkldfehhlaaGreatDoorM6
import Derived.Test.YtkbenkldfehhlaaGreatDoorM8
import Derived.Test.YtkbenkldfehhlaaGreatDoorM11
import Derived.Laws.EntriesVeiled
import Derived.Deep.DeepCutAuto
namespace Go.Proofs.YtkbenkldfehhlaaGreatDoor
open Go Go.RowKit Go.Sort
set_option maxRecDepth 100000
set_option maxHeartbeats 1600000
def DenFor (U:List UInt8→Int×List Ev×Int) (d:Dsk):Prop:=DenOk U∨∀q∈(listedB (d.read manifestS).1).1,q.dense=false
section
variable {X:Nat→Prop}{w0 w:World}{b:Nat}{d:Dsk}{U:List UInt8→Int×List Ev×Int}
theorem pieceD_len' {q:Pc}(hU:q.dense=true→DenOk U) (ok:d.Ok) (op:Bool):(pieceD U d q op).1.length≤16777216:=by
 unfold pieceD
 split
 ·simp
 ·split
  ·simp
  ·have hl:=readFl_len ok q.name
   unfold segR
   split
   ·rename_i h;exact (hU h).len _
   ·have:=scanB_len (readFl d q.name).1
    simp only
    omega
theorem pcsD_cons (q:Pc) (l:List Pc) (out:List Ev) (g:Int):pcsD U d (q::l) out g=if (pieceD U d q (decide (l=[]))).2.2≠0 then ([],0,(pieceD U d q (decide (l=[]))).2.2) else pcsD U d l (out++(pieceD U d q (decide (l=[]))).1) (pieceD U d q (decide (l=[]))).2.1:=rfl
theorem scan_ok (h:HasX X w0 w b d) (hU:DenFor U d){es:List Ev}{ps:List Pc}{good x:Int}(hr:scanD U d=⟨es,ps,good,x⟩) :
  Calls Tryz.prog 44 #[.pointer (some ⟨b,0,none⟩)] w fun z w'=>∃v p,z=.returned (.tuple #[v,p,.int .i64 good,.int .i64 x])∧OwnE w w' v es∧OwnP w w' p ps:=by
 have H:=zH h
 obtain⟨⟨mb,e1⟩,hm⟩:=zN (d.read manifestS)
 have HM:=zH (h.read manifestS hm)
 have hml:=read_len h.ok manifestS
 unfold DenFor at hU
 unfold scanD at hr
 rw[hm]at hr hml hU
 simp only at hr hml hU
 clear h hm
 by_cases c13:e1=13
 ·subst c13
  rw[if_pos rfl]at hr
  obtain⟨rfl,rfl,rfl,rfl⟩:[]=es∧[]=ps∧0=good∧0=x:=by simpa using hr
  clear hr hU
  go_enter Tryz.func44,Tryz.ntmps44
  go_wp2_with fail
  refine HM.out.mono ?_
  rintro z w1 ⟨v1,rfl,-,n1,-⟩
  have N1:=zH n1
  clear n1
  go_wp2
  refine bodyPost_ret (v:=.tuple #[.slice none 0 0,.slice none 0 0,.int .i64 0,.int .i64 0]) (by simp[results,Tryz.results44,go_sem]) rfl ⟨_,_,rfl,⟨Vec.nil,N1.out,fun g hg=>by cases hg⟩,OwnP.nil N1.out⟩
 rw[if_neg c13]at hr
 by_cases c1:e1=0
 case neg =>
  have q1:(e1==0)=false:=by simpa using c1
  have q2:(e1==13)=false:=by simpa using c13
  rw[if_pos c1]at hr
  obtain⟨rfl,rfl,rfl,rfl⟩:[]=es∧[]=ps∧0=good∧e1=x:=by simpa using hr
  clear hr hU
  go_enter Tryz.func44,Tryz.ntmps44
  go_wp2_with fail
  refine HM.out.mono ?_
  rintro z w1 ⟨v1,rfl,-,n1,-⟩
  have N1:=zH n1
  clear n1
  go_wp2
  refine bodyPost_ret (v:=.tuple #[.slice none 0 0,.slice none 0 0,.int .i64 0,.int .i64 e1]) (by simp[results,Tryz.results44,go_sem]) rfl ⟨_,_,rfl,⟨Vec.nil,N1.out,fun g hg=>by cases hg⟩,OwnP.nil N1.out⟩
 subst c1
 rw[if_neg (by simp)]at hr
 obtain⟨⟨pl,e2⟩,hp⟩:=zN (listedB mb)
 have hrt:=listedB_right (b:=mb)
 rw[hp]at hr hrt hU
 simp only at hr hrt hU
 have HP:=zH (fun (W:World) (v:Value) (hb:Bs W v mb)=>Listed_ok hb (by omega) hp)
 clear hp c13
 by_cases c2:e2=0
 case neg =>
  have q1:(e2 !=0)=true:=by simpa using c2
  rw[if_pos c2]at hr
  obtain⟨rfl,rfl,rfl,rfl⟩:[]=es∧[]=ps∧0=good∧14=x:=by simpa using hr
  clear hrt hr hU
  go_enter Tryz.func44,Tryz.ntmps44
  go_wp2_with fail
  refine HM.out.mono ?_
  rintro z w1 ⟨v1,rfl,o1,n1,-⟩
  obtain⟨xa,xc,rfl,-⟩:=o1.rd.len
  have O1:=zH o1.rd
  have N1:=zH n1
  clear n1 o1
  go_wp2_with fail
  refine (HP.out w1 _ O1.out).mono ?_
  rintro z w2 ⟨v2,rfl,o2⟩
  have N2:=zH (N1.out.trans o2.2.2.1)
  clear o2
  go_wp2
  refine bodyPost_ret (v:=.tuple #[.slice none 0 0,.slice none 0 0,.int .i64 0,.int .i64 14]) (by simp[results,Tryz.results44,go_sem]) rfl ⟨_,_,rfl,⟨Vec.nil,N2.out,fun g hg=>by cases hg⟩,OwnP.nil N2.out⟩
 subst c2
 rw[if_neg (by simp)]at hr
 have hpl:=(rightL_bound (hrt rfl)).2.1
 obtain⟨np,hnp⟩:=zN (pl.length)
 rw[hnp]at hpl
 have HNP:=zH hnp
 obtain⟨R,hR⟩:=zN (pcsD U d pl [] 0)
 rw[hR]at hr
 have HR:=zH hR
 have HRR:=zH hr
 have HU:Hid (∀q∈pl,q.dense=true→DenOk U):=zH (fun q hq hd=>by
  rcases hU with h|h
  ·exact h
  ·rw[h q hq]at hd;cases hd)
 obtain⟨i0,hi,hz0,hz1,hz2⟩:=info_parts infoEv
 have HI:=zH hi
 have HZ0:=zH hz0
 have HZ1:=zH hz1
 have HZ2:=zH hz2
 clear hi hz0 hz1 hz2 hr hR hrt hnp hU
 go_enter Tryz.func44,Tryz.ntmps44
 go_wp2_with fail
 refine HM.out.mono ?_
 rintro z w1 ⟨v1,rfl,o1,n1,-⟩
 obtain⟨xa,xc,rfl,-⟩:=o1.rd.len
 have O1:=zH o1.rd
 have N1:=zH n1
 clear n1 o1
 go_wp2_with fail
 refine (HP.out w1 _ O1.out).mono ?_
 rintro z w2 ⟨v2,rfl,o2⟩
 have N2:=zH (N1.out.trans o2.2.2.1)
 have P2:=zH o2.pcs
 have OP2:=zH (OwnP.from N1.out o2)
 obtain⟨pa,pc,rfl,hpc1,hpc2,-⟩:=o2.pcs.elem
 rw[HNP.out]at hpc1 P2 OP2 ⊢
 clear o2 hpc2
 go_wp2
 go_loopw [9,10,36] (fun s gv i wr=>∃(k m:Nat) (out:List Ev) (g:Int),k≤np∧i=.int .i64 k∧gv=.int .i64 g∧pcsD U d (pl.drop k) out g=R∧Vec 5 wr s m (out.flatMap evV)∧out.length=m∧m≤16777216*k∧Nw w wr∧Nw w2 wr∧∀g,s.ownBlock=some g→w2.heap.size≤g) (fun _ _ i _=>np-(intOf i).toNat)
 case atStart=>exact⟨0,0,[],0,Nat.zero_le _,rfl,rfl,HR.out,Vec.nil,rfl,by omega,N2.out,Nw.refl _,fun g hg=>by cases hg⟩
 case round =>
  obtain⟨k,m,out,gd,hk,rfl,rfl,htf,hs,hm,hmk,hw,hw2,hfr⟩:=hrel
  obtain⟨sa,sc,rfl,-⟩:=hs.len
  have HS:=zH (And.intro hs (And.intro hw (And.intro hw2 hfr)))
  have HTF:=zH htf
  have HML:=zH hm
  clear hs hw hw2 hfr htf hm
  by_cases hlt:k<np
  case neg =>
   obtain rfl:k=np:=by omega
   have rr:=HTF.out
   rw[List.drop_of_length_le (by rw[HNP.out];exact Nat.le_refl _)]at rr
   unfold pcsD at rr
   have r2:=HRR.out
   rw[←rr,if_neg (by simp)]at r2
   obtain⟨rfl,rfl,rfl,rfl⟩:out=es∧pl=ps∧gd=good∧0=x:=by simpa using r2
   clear rr r2
   go_wp2
   refine bodyPost_ret (v:=.tuple #[.slice sa m sc,.slice pa k pc,.int .i64 gd,.int .i64 0]) (by simp[results,Tryz.results44,go_sem]) rfl ⟨_,_,rfl,⟨?_,HS.out.2.1,fun g hg=>Nat.le_trans N2.out.size (HS.out.2.2.2 g hg)⟩,OP2.out.nw HS.out.2.2.1⟩
   rw[HML.out];exact HS.out.1
  have hkl:k<pl.length:=by rw[HNP.out];exact hlt
  obtain⟨g,o,hpe,hg,x0,x1,x2,x3⟩:=pcs_at P2.out HNP.out hlt
  subst hpe
  have x0:=HS.out.2.2.1.cell x0
  have x1:=HS.out.2.2.1.cell x1
  have x2:=HS.out.2.2.1.cell x2
  have x3:=HS.out.2.2.1.cell x3
  have hg:=Nat.lt_of_lt_of_le hg HS.out.2.2.1.size
  have rr:=HTF.out
  rw[List.drop_eq_getElem_cons hkl,pcsD_cons]at rr
  have hlast:decide (pl.drop (k+1)=[])=((k:Int)==(np:Int)-1):=by
   have:(pl.drop (k+1)=[])↔(k:Int)=(np:Int)-1:=by rw[←HNP.out,List.drop_eq_nil_iff];omega
   by_cases hc:(k:Int)=(np:Int)-1
   ·rw[decide_eq_true (this.2 hc)];simp[hc]
   ·rw[decide_eq_false (fun h=>hc (this.1 h))];symm;simpa using hc
  rw[hlast]at rr
  have hqm:pl[k]∈pl:=List.getElem_mem hkl
  have hden:=HU.out _ hqm
  generalize (pl[k]:Pc)=q at x0 x1 x2 x3 rr hden
  obtain⟨op,hop⟩:∃t:Bool,((k:Int)==(np:Int)-1)=t:=⟨_,rfl⟩
  rw[hop]at rr
  obtain⟨⟨es1,g1,x4⟩,hpd⟩:=zN (pieceD U d q op)
  have hpl2:=pieceD_len' hden H.out.ok op
  rw[hpd]at rr hpl2
  simp only at rr hpl2
  have HTF2:=zH rr
  have hsub:IntKind.i64.wrap ((np:Int)-1)=(np:Int)-1:=IntWalk.i64_in _ (by omega)
  have na:=(Nw.refl wr).alloc (.cells #[.string ⟨q.name.toArray⟩,.int .i64 q.first,.int .i64 q.count,.bool q.dense] 98)
  have hB:=heap_alloc_new wr (.cells #[.string ⟨q.name.toArray⟩,.int .i64 q.first,.int .i64 q.count,.bool q.dense] 98)
  have C:=zH (RPiece_ok (H.out.nw (HS.out.2.1.trans na)) q op hden hpd)
  have y0:=cell_of hB (i:=0) rfl
  have y1:=cell_of hB (i:=1) rfl
  have y2:=cell_of hB (i:=2) rfl
  have y3:=cell_of hB (i:=3) rfl
  have NA:=zH na
  have HPD:=zH hpl2
  clear rr HTF hlast hqm hden hpd na hB hpl2
  go_wp2_with fail
  refine C.out.mono ?_
  rintro z w3 ⟨v3,rfl,o3⟩
  obtain⟨ya,yc,rfl,-⟩:=o3.1.len
  obtain⟨ne,hne⟩:=zN (es1.length)
  have hpl2:=HPD.out
  rw[hne]at o3 hpl2 ⊢
  have HNE:=zH hne
  have O3:=zH o3
  have N3:=zH (NA.out.trans o3.2.1)
  clear o3 C y0 y1 y2 y3 x0 x1 x2 x3 hg hne
  by_cases d1:x4=0
  case neg =>
   have q1:(x4 !=0)=true:=by simpa using d1
   have rr:=HTF2.out
   rw[if_pos d1]at rr
   have r2:=HRR.out
   rw[←rr,if_pos (by simpa using d1)]at r2
   obtain⟨rfl,rfl,rfl,rfl⟩:[]=es∧[]=ps∧0=good∧x4=x:=by simpa using r2
   clear rr r2
   have N4:=zH (HS.out.2.1.trans N3.out)
   go_wp2
   refine bodyPost_ret (v:=.tuple #[.slice none 0 0,.slice none 0 0,.int .i64 0,.int .i64 x4]) (by simp[results,Tryz.results44,go_sem]) rfl ⟨_,_,rfl,⟨Vec.nil,N4.out,fun g hg=>by cases hg⟩,OwnP.nil N4.out⟩
  subst d1
  have hbnd:m+ne≤16777216*(k+1):=by omega
  have V5:=zH (HS.out.1.nw N3.out)
  have X5:Hid (SrcV 5 w3 (.slice ya ne yc) ne (es1.flatMap evV)):=zH (by have:=O3.out.1.src;rwa [HNE.out]at this)
  have rr:=HTF2.out
  rw[if_neg (by simp)]at rr
  have HTF4:=zH rr
  clear rr HTF2
  go_wp2_with (at_builtin;refine wpList_append_vec rfl _ _ 31 rfl 87 i0 (.agg #[.int .i64 0,.int .u8 0,.int .i64 0,.int .i64 0,.int .i64 0]) 5 40 Tryz.underlying31 HI.out HZ0.out HZ1.out HZ2.out rfl (by decide) rfl rfl V5.out X5.out ?c1 ?c2 ?c3 ?_)
  case c1=>exact evV_one es1
  case c2=>unfold maxLen;omega
  case c3=>omega
  intro v5 w5 q5 q6 q7
  obtain⟨ta,tc,rfl,-⟩:=q5.len
  have Q:=zH (And.intro q5 (And.intro q6 q7))
  clear q5 q6 q7
  go_wp2
  go_roundw
  case rel =>
   have h0:=N2.out.size
   have hnw2:Nw w2 w5:=(HS.out.2.2.1.trans N3.out).trans' Q.out.2.1 (fun g hg hc=>by have:=HS.out.2.2.2 g hc;omega)
   refine⟨k+1,m+ne,out++es1,g1,by omega,by go_num,rfl,HTF4.out,by rw[List.flatMap_append];exact Q.out.1,by rw[List.length_append,HML.out,HNE.out],hbnd,N2.out.trans hnw2,hnw2,fun g hg=>?_⟩
   rcases Q.out.2.2 with h|h
   ·exact HS.out.2.2.2 g (h▸hg)
   ·exact Nat.le_trans (HS.out.2.2.1.trans N3.out).size (h g hg)
  case measure=>simp[intOf];omega
theorem Scan_ok (h:HasX X w0 w b d) (hU:DenFor U d){es:List Ev}{ps:List Pc}{good x:Int}(hr:scanD U d=⟨es,ps,good,x⟩) :
  Calls Tryz.prog 8 #[.pointer (some ⟨b,0,none⟩)] w fun z w'=>∃v p,z=.returned (.tuple #[v,p,.int .i64 x])∧OwnE w w' v es∧OwnP w w' p ps:=by
 have C:=zH (scan_ok h hU hr)
 clear h hU hr
 go_enter Tryz.func8,Tryz.ntmps8
 go_wp2_with fail
 refine C.out.mono ?_
 rintro z w1 ⟨v,p,rfl,o1,o2⟩
 have O:=zH (And.intro o1 o2)
 clear o1 o2
 go_wp2
 refine bodyPost_ret (v:=.tuple #[v,p,.int .i64 x]) (by simp[results,Tryz.results8,go_sem]) rfl ⟨_,_,rfl,O.out.1,O.out.2⟩
end
end Go.Proofs.YtkbenkldfehhlaaGreatDoor
namespace Go.Proofs.YtkbenkldfehhlaaGreatDoor
open Go
def denseS:Str:=[65,77,68,49]
def sums:Int→List Int→List Int
 |_,[]=>[]
 |n,x::D=>w64 (n+x)::sums (w64 (n+x)) D
theorem sums_len:∀(D:List Int) (n:Int),(sums n D).length=D.length
 |[],_=>rfl
 |x::D,n=>by simp[sums,sums_len D]
def lastD (n:Int) (l:List Int):Int:=l.getLastD n
theorem sums_append:∀(D E:List Int) (n:Int),sums n (D++E)=sums n D++sums (lastD n (sums n D)) E
 |[],_,_=>rfl
 |x::D,E,n=>by
  simp only[List.cons_append,sums]
  rw[sums_append D E]
  congr 3
  unfold lastD
  cases h:sums (w64 (n+x)) D with
  |nil=>simp
  |cons y r =>
   simp only[List.getLastD_cons]
def colR (b:List UInt8) (ok:Int→Bool) (rem:Nat) (first:Bool) (last n at_:Int) (acc:List Int):Option (List Int×Int):=
 if rem=0 then some (acc,at_) else
 if (getI b at_).2.2≠0 then none else
 if _h:(getU b (getI b at_).2.1).2.2≠0∨(getU b (getI b at_).2.1).1<1∨rem<(getU b (getI b at_).2.1).1∨(first=false∧(getI b at_).1=last) then none else
 if (sums n (List.replicate (getU b (getI b at_).2.1).1 (getI b at_).1)).all ok=false then none else
 colR b ok (rem-(getU b (getI b at_).2.1).1) false (getI b at_).1 (lastD n (sums n (List.replicate (getU b (getI b at_).2.1).1 (getI b at_).1))) (getU b (getI b at_).2.1).2.1 (acc++sums n (List.replicate (getU b (getI b at_).2.1).1 (getI b at_).1))
termination_by rem
decreasing_by omega
theorem colR_zero {b:List UInt8}{ok:Int→Bool}{first:Bool}{last n at_:Int}{acc:List Int}:colR b ok 0 first last n at_ acc=some (acc,at_):=by
 unfold colR;rw[if_pos rfl]
def okAny:Int→Bool:=fun _=>true
def okOp:Int→Bool:=fun n=>decide (0≤n) && decide (n≤255)
def setT (e:Ev) (v:Int):Ev:={ e with thread:=v }
def setOp (e:Ev) (v:Int):Ev:={ e with op:=UInt8.ofNat (v % 256).toNat }
def setObj (e:Ev) (v:Int):Ev:={ e with obj:=v }
def setA (e:Ev) (v:Int):Ev:={ e with a:=v }
def setB (e:Ev) (v:Int):Ev:={ e with b:=v }
def cols:List ((Ev→Int→Ev)×(Int→Bool)):=[(setT,okAny),(setOp,okOp),(setObj,okAny),(setA,okAny),(setB,okAny)]
def colsR (b:List UInt8):List ((Ev→Int→Ev)×(Int→Bool))→List Ev→Int→Option (List Ev×Int)
 |[],es,at_=>some (es,at_)
 |(set,ok)::cs,es,at_=>match colR b ok es.length true 0 0 at_ [] with
  |none=>none
  |some (vs,x)=>colsR b cs (List.zipWith set es vs) x
def unpackIn (u:List UInt8):Int×List Ev×Int:=
 if ¬ denseS <+: u then (0,[],10) else
 if (getU u 4).2.2≠0∨4611686018427387904<(getU u 4).1 then (0,[],10) else
 if (getU u (getU u 4).2.1).2.2≠0∨(getU u (getU u 4).2.1).1<1∨1048576<(getU u (getU u 4).2.1).1 then (0,[],10) else
 match colsR u cols (List.replicate (getU u (getU u 4).2.1).1 Ev.zero) (getU u (getU u 4).2.1).2.1 with
 |none=>(0,[],10)
 |some (es,at_)=>if at_<u.length then (0,[],10) else (((getU u 4).1:Int),es,0)
def unpackB (b:List UInt8):Int×List Ev×Int:=if (unsealB b).2≠0 then (0,[],(unsealB b).2) else unpackIn (unsealB b).1
open Go.RowKit Go.Sort
set_option maxRecDepth 100000
set_option maxHeartbeats 1600000
def pickFs:Array Nat:=#[205,206,207,208,209]
def putFs:Array Nat:=#[210,211,212,213,214]
section
variable {w:World}{g o:Nat}{u:Value}{v:Int}
theorem put0_ok (_hg:g<w.heap.size) (h:w.cell? ⟨g,o,none⟩=some u) (hf:w.frozen? ⟨g,o,none⟩=false) :
  Calls Tryz.prog 210 #[.pointer (some ⟨g,o,none⟩),.int .i64 v] w fun e w'=>e=.returned (.bool true)∧w'=w.setCell ⟨g,o,none⟩ (.int .i64 v):=by
 go_enter Tryz.func210,Tryz.ntmps210
 go_wp2
 go_ret
 exact⟨rfl,rfl⟩
theorem put2_ok (_hg:g<w.heap.size) (h:w.cell? ⟨g,o+2,none⟩=some u) (hf:w.frozen? ⟨g,o+2,none⟩=false) :
  Calls Tryz.prog 212 #[.pointer (some ⟨g,o,none⟩),.int .i64 v] w fun e w'=>e=.returned (.bool true)∧w'=w.setCell ⟨g,o+2,none⟩ (.int .i64 v):=by
 go_enter Tryz.func212,Tryz.ntmps212
 go_wp2
 go_ret
 exact⟨rfl,rfl⟩
theorem put3_ok (_hg:g<w.heap.size) (h:w.cell? ⟨g,o+3,none⟩=some u) (hf:w.frozen? ⟨g,o+3,none⟩=false) :
  Calls Tryz.prog 213 #[.pointer (some ⟨g,o,none⟩),.int .i64 v] w fun e w'=>e=.returned (.bool true)∧w'=w.setCell ⟨g,o+3,none⟩ (.int .i64 v):=by
 go_enter Tryz.func213,Tryz.ntmps213
 go_wp2
 go_ret
 exact⟨rfl,rfl⟩
theorem put4_ok (_hg:g<w.heap.size) (h:w.cell? ⟨g,o+4,none⟩=some u) (hf:w.frozen? ⟨g,o+4,none⟩=false) :
  Calls Tryz.prog 214 #[.pointer (some ⟨g,o,none⟩),.int .i64 v] w fun e w'=>e=.returned (.bool true)∧w'=w.setCell ⟨g,o+4,none⟩ (.int .i64 v):=by
 go_enter Tryz.func214,Tryz.ntmps214
 go_wp2
 go_ret
 exact⟨rfl,rfl⟩
theorem put1_ok (_hg:g<w.heap.size) (h:w.cell? ⟨g,o+1,none⟩=some u) (hf:w.frozen? ⟨g,o+1,none⟩=false) :
  Calls Tryz.prog 211 #[.pointer (some ⟨g,o,none⟩),.int .i64 v] w fun e w'=>e=.returned (.bool (okOp v))∧w'=w.setCell ⟨g,o+1,none⟩ (.int .u8 (v % 256)):=by
 by_cases h0:0≤v
 ·by_cases h1:v≤255
  ·have hm:v % 256=v:=by omega
   rw[hm]
   go_enter Tryz.func211,Tryz.ntmps211
   go_wp2
   go_ret
   exact⟨by simp[okOp,h0,h1],rfl⟩
  ·go_enter Tryz.func211,Tryz.ntmps211
   go_wp2
   go_ret
   exact⟨by simp[okOp,h0,h1],rfl⟩
 ·have h1:v<0:=by omega
  go_enter Tryz.func211,Tryz.ntmps211
  go_wp2
  go_ret
  exact⟨by simp[okOp];omega,rfl⟩
theorem columns_ok:Calls Tryz.prog 186 #[] w fun e w'=>e=.returned (.tuple #[.agg (pickFs.map fun f=>.func (.func f) #[] #[]),.agg (putFs.map fun f=>.func (.func f) #[] #[])])∧Nw w w':=by
 go_enter Tryz.func186,Tryz.ntmps186
 go_wp2
 go_region
 all_goals go_wp2
 refine bodyPost_ret (v:=.tuple #[.agg (pickFs.map fun f=>.func (.func f) #[] #[]),.agg (putFs.map fun f=>.func (.func f) #[] #[])]) (by simp[results,Tryz.results186,go_sem,pickFs,putFs]) rfl ⟨rfl,((((Nw.refl w).alloc _).alloc _).alloc _).alloc _ |>.drew⟩
end
theorem Vec.setAt {k n cap g o j:Nat}{w:World}{cs:List Value}(h:Vec k w (.slice (some ⟨g,o,none⟩) n cap) n cs) (hj:j<cs.length) (u:Value) :
  Vec k (w.setCell ⟨g,o+j,none⟩ u) (.slice (some ⟨g,o,none⟩) n cap) n (cs.set j u):=by
 obtain⟨h0,⟨h,-⟩|⟨g',o',cap',he,h1,h2,h3,h4,h5,h6⟩⟩:=h
 ·cases h
 ·obtain⟨⟨rfl,rfl⟩,rfl⟩:(g=g'∧o=o')∧cap=cap':=by simpa using he
  refine⟨by simpa using h0,.inr ⟨g,o,cap,rfl,h1,h2,by simpa [World.setCell] using h3,fun i hi=>?_,fun i hi=>(World.frozen?_setCell _ _ _ _).trans (h5 i hi),fun i hi=>?_⟩⟩
  ·by_cases e:i=j
   ·subst e
    rw[World.cell?_setCell_same _ _ _ (h6 i hj)];rfl
   ·rw[World.cell?_setCell_other _ _ _ _ (by simp <;> omega)];exact h4 i hi
  ·rw[List.getElem_set]
   split
   ·rename_i e;subst e
    exact World.cell?_setCell_same _ _ _ (h6 _ hj)
   ·rename_i e
    rw[World.cell?_setCell_other _ _ _ _ (by simp <;> omega)]
    exact h6 i (by simpa using hi)
theorem set_flat (e':Ev){u:Value}{c:Nat}:∀(l:List Ev) (i:Nat) (hi:i<l.length),c<5→evV e'=(evV l[i]).set c u→(l.flatMap evV).set (i*5+c) u=(l.set i e').flatMap evV
 |[],i,hi,_,_=>by simp at hi
 |e::l,0,hi,hc,he=>by
  simp only[List.getElem_cons_zero]at he
  rw[List.flatMap_cons,List.set_cons_zero,List.flatMap_cons,he,List.set_append,if_pos (by simp[evV];omega),Nat.zero_mul,Nat.zero_add]
 |e::l,i+1,hi,hc,he=>by
  simp only[List.getElem_cons_succ]at he
  rw[List.flatMap_cons,List.set_cons_succ,List.flatMap_cons,List.set_append,if_neg (by simp[evV];omega),←set_flat e' l i (by simpa using hi) hc he]
  congr 2
  simp[evV];omega
structure PutCol (f:FuncId) (set:Ev→Int→Ev) (ok:Int→Bool) (c:Nat) (val:Int→Value):Prop where
 en:Enters Tryz.prog f
 c5:c<5
 vals:∀e v,evV (set e v)=(evV e).set c (val v)
 call:∀(w:World) (g o:Nat) (u:Value) (v:Int),g<w.heap.size→w.cell? ⟨g,o+c,none⟩=some u→w.frozen? ⟨g,o+c,none⟩=false→Calls Tryz.prog f #[.pointer (some ⟨g,o,none⟩),.int .i64 v] w fun e w'=>e=.returned (.bool (ok v))∧w'=w.setCell ⟨g,o+c,none⟩ (val v)
theorem putOk0:PutCol 210 setT okAny 0 (fun v=>.int .i64 v):=
 ⟨enters_of Tryz.func210 (by kernel_rfl) (by kernel_rfl),by decide,fun _ _=>rfl,fun _ _ _ _ _ h1 h2 h3=>put0_ok h1 h2 h3⟩
theorem putOk1:PutCol 211 setOp okOp 1 (fun v=>.int .u8 (v % 256)):=
 ⟨enters_of Tryz.func211 (by kernel_rfl) (by kernel_rfl),by decide,fun e v=>by
  have h:(((v % 256).toNat % 256:Nat):Int)=v % 256:=by omega
  simp[evV,setOp,h],fun _ _ _ _ _ h1 h2 h3=>put1_ok h1 h2 h3⟩
theorem putOk2:PutCol 212 setObj okAny 2 (fun v=>.int .i64 v):=
 ⟨enters_of Tryz.func212 (by kernel_rfl) (by kernel_rfl),by decide,fun _ _=>rfl,fun _ _ _ _ _ h1 h2 h3=>put2_ok h1 h2 h3⟩
theorem putOk3:PutCol 213 setA okAny 3 (fun v=>.int .i64 v):=
 ⟨enters_of Tryz.func213 (by kernel_rfl) (by kernel_rfl),by decide,fun _ _=>rfl,fun _ _ _ _ _ h1 h2 h3=>put3_ok h1 h2 h3⟩
theorem putOk4:PutCol 214 setB okAny 4 (fun v=>.int .i64 v):=
 ⟨enters_of Tryz.func214 (by kernel_rfl) (by kernel_rfl),by decide,fun _ _=>rfl,fun _ _ _ _ _ h1 h2 h3=>put4_ok h1 h2 h3⟩
def halfE (set:Ev→Int→Ev) (es:List Ev) (acc:List Int):List Ev:=List.zipWith set es acc++es.drop acc.length
theorem halfE_len (set:Ev→Int→Ev) (es:List Ev) (acc:List Int) (h:acc.length≤es.length):(halfE set es acc).length=es.length:=by
 simp[halfE];omega
theorem halfE_full (set:Ev→Int→Ev) (es:List Ev) (acc:List Int) (h:acc.length=es.length):halfE set es acc=List.zipWith set es acc:=by
 simp[halfE,h]
theorem halfE_snoc (set:Ev→Int→Ev) (es:List Ev) (acc:List Int) (v:Int) (h:acc.length<es.length) :
  ∃hl:acc.length<(halfE set es acc).length,(halfE set es acc).set acc.length (set (halfE set es acc)[acc.length] v)=halfE set es (acc++[v]):=by
 have hl:acc.length<(halfE set es acc).length:=by rw[halfE_len _ _ _ (by omega)];exact h
 refine⟨hl,?_⟩
 have hz:(List.zipWith set es acc).length=acc.length:=by simp;omega
 have e1:es.drop acc.length=es[acc.length]::es.drop (acc.length+1):=List.drop_eq_getElem_cons h
 have e2:(halfE set es acc)[acc.length]'hl=es[acc.length]:=by
  simp only[halfE,List.getElem_append,hz,Nat.lt_irrefl,dite_false,Nat.sub_self,List.getElem_drop,Nat.add_zero]
 rw[e2]
 unfold halfE
 rw[List.set_append,if_neg (by omega),hz,Nat.sub_self,e1,List.set_cons_zero,List.length_append,List.length_singleton]
 have:List.zipWith set es (acc++[v])=List.zipWith set es acc++[set es[acc.length] v]:=by
  conv=>lhs;rw[←List.take_append_drop acc.length es,e1]
  rw[List.zipWith_append (by simp;omega)]
  congr 1
  ·conv=>rhs;rw[←List.take_append_drop acc.length es]
   rw[show acc=acc++[] by simp,List.zipWith_append (by simp;omega)]
   simp
  ·rw[List.zipWith_cons_cons,List.zipWith_nil_right]
 rw[this,List.append_assoc];rfl
theorem replicate_sums (n x:Int) (j:Nat):sums n (List.replicate (j+1) x)=sums n (List.replicate j x)++[w64 (lastD n (sums n (List.replicate j x))+x)]:=by
 rw[List.replicate_succ',sums_append];rfl
theorem lastD_snoc (n v:Int) (l:List Int):lastD n (l++[v])=v:=by simp[lastD]
def ColP (W:World) (g o N cap:Nat) (set:Ev→Int→Ev) (es:List Ev) (R:Option (List Int×Int)) (z:Ending) (w':World):Prop:=Nw W w' ∧
 ((R=none∧z=.returned (.tuple #[.int .i64 0,.bool false]))∨∃vs x,R=some (vs,x)∧z=.returned (.tuple #[.int .i64 x,.bool true])∧Vec 5 w' (.slice (some ⟨g,o,none⟩) N cap) N ((List.zipWith set es vs).flatMap evV)∧vs.length=es.length∧in64 x)
theorem column_ok {W w:World}{v:Value}{b:List UInt8}(hv:Bs W v b) (hW:Nw W w){at_:Int}(ha:in64 at_){es:List Ev}{g o N cap:Nat}(hN:es.length=N) (hNm:N≤1048576) (hg:W.heap.size≤g) (hs:Vec 5 w (.slice (some ⟨g,o,none⟩) N cap) N (es.flatMap evV))
  {f:FuncId}{set:Ev→Int→Ev}{ok:Int→Bool}{c:Nat}{val:Int→Value}(hp:PutCol f set ok c val) :
  Calls Tryz.prog 187 #[v,.int .i64 at_,.slice (some ⟨g,o,none⟩) N cap,.func (.func f) #[] #[]] w (ColP W g o N cap set es (colR b ok N true 0 0 at_ [])):=by
 obtain⟨a,vc,rfl,hv1,hv2,-⟩:=hv.elems
 have hb63:b.length≤9223372036854775807:=by unfold maxLen at hv2;omega
 have HV:=zH hv
 have HP:=zH hp
 have en:=hp.en
 unfold Enters at en
 have hc5:=hp.c5
 have HN:=zH hN
 obtain⟨R,hR⟩:=zN (colR b ok N true 0 0 at_ [])
 rw[hR]
 have HR:=zH hR
 have HS:=zH hs
 have HW:=zH hW
 clear hv hp hN hR hs hW hv1 hv2
 go_enter Tryz.func187,Tryz.ntmps187
 go_wp2
 go_loopw [1,10,11,12] (fun av nv lv iv wr=>∃(at1 n0 l0:Int) (acc:List Int),av=.int .i64 at1∧nv=.int .i64 n0∧lv=.int .i64 l0∧iv=.int .i64 acc.length∧acc.length≤N∧in64 at1∧colR b ok (N-acc.length) (decide (acc.length=0)) l0 n0 at1 acc=R ∧
  Vec 5 wr (.slice (some ⟨g,o,none⟩) N cap) N ((halfE set es acc).flatMap evV)∧Nw W wr) (fun _ _ _ iv _=>N-(intOf iv).toNat)
 case atStart=>exact⟨at_,0,0,[],rfl,rfl,rfl,rfl,Nat.zero_le _,ha,HR.out,by simpa [halfE] using HS.out,HW.out⟩
 case round =>
  obtain⟨at1,n0,l0,acc,rfl,rfl,rfl,rfl,hacc,hat,hr,hs1,hw1⟩:=hrel
  clear HR HS HW ha
  have HR:=zH hr
  have HS:=zH hs1
  have HW:=zH hw1
  clear hr hs1 hw1
  obtain⟨k,hk⟩:=zN (acc.length)
  rw[hk]at hacc HR ⊢
  have HK:=zH hk
  clear hk
  by_cases hlt:k<N
  case neg =>
   obtain rfl:k=N:=by omega
   have hr:=HR.out
   rw[Nat.sub_self,colR_zero]at hr
   have hl:acc.length=es.length:=by rw[HK.out,HN.out]
   have HF:=zH (halfE_full set es acc hl)
   go_wp2
   go_ret2
   exact⟨HW.out,.inr ⟨acc,at1,hr.symm,rfl,by rw[←HF.out];exact HS.out,hl,hat⟩⟩
  obtain⟨⟨x,p1,e1⟩,hgi⟩:=zN (getI b at1)
  have C1:=zH (GetInt_ok (HV.out.nw HW.out) at1 hat hgi)
  have hun:=HR.out
  unfold colR at hun
  rw[if_neg (by omega),hgi]at hun
  simp only at hun
  have hfi:=getI_fine (b:=b) (at_:=at1)
  rw[hgi]at hfi
  simp only at hfi
  clear HR hgi
  by_cases c1:e1=0
  case neg =>
   have q1:(e1 !=0)=true:=by simpa using c1
   rw[if_pos c1]at hun
   clear hfi
   go_wp2_with fail
   refine C1.out.mono ?_
   rintro z w' ⟨rfl,rfl⟩
   go_wp2
   go_ret2
   exact⟨HW.out,.inl ⟨hun.symm,rfl⟩⟩
  subst c1
  rw[if_neg (by simp)]at hun
  obtain⟨i1,i2,i3⟩:=hfi rfl
  clear hfi
  have hp1:in64 p1:=⟨by omega,by omega⟩
  obtain⟨⟨run,p2,e2⟩,hgu⟩:=zN (getU b p1)
  have C2:=zH (GetUint_ok (HV.out.nw HW.out) p1 hp1 hgu)
  rw[hgu]at hun
  simp only at hun
  have hfu:=getU_fine (b:=b) (at_:=p1)
  rw[hgu]at hfu
  simp only at hfu
  clear hgu
  have ret0:R=none→ColP W g o N cap set es R (.returned (.tuple #[.int .i64 0,.bool false])) wr:=fun h=>⟨HW.out,.inl ⟨h,rfl⟩⟩
  have RET:=zH ret0
  clear ret0
  by_cases c2:e2=0
  case neg =>
   have q1:(e2 !=0)=true:=by simpa using c2
   rw[dif_pos (.inl c2)]at hun
   clear hfu
   go_wp2_with fail
   refine C1.out.mono ?_
   rintro z w' ⟨rfl,rfl⟩
   go_wp2_with fail
   refine C2.out.mono ?_
   rintro z w' ⟨rfl,rfl⟩
   go_wp2
   go_ret2
   exact RET.out hun.symm
  subst c2
  obtain⟨j1,j2,j3,j4⟩:=hfu rfl
  by_cases c3:run<1
  case pos =>
   rw[dif_pos (.inr (.inl c3))]at hun
   go_wp2_with fail
   refine C1.out.mono ?_
   rintro z w' ⟨rfl,rfl⟩
   go_wp2_with fail
   refine C2.out.mono ?_
   rintro z w' ⟨rfl,rfl⟩
   go_wp2
   go_ret2
   exact RET.out hun.symm
  have hwr:IntKind.u64.wrap ((N:Int)-(k:Int))=(N:Int)-(k:Int):=IntWalk.u64_in _ (by omega)
  by_cases c4:N-k<run
  case pos =>
   rw[dif_pos (.inr (.inr (.inl c4)))]at hun
   have q2:decide ((N:Int)-(k:Int)<(run:Int))=true:=by simp;omega
   go_wp2_with fail
   refine C1.out.mono ?_
   rintro z w' ⟨rfl,rfl⟩
   go_wp2_with fail
   refine C2.out.mono ?_
   rintro z w' ⟨rfl,rfl⟩
   go_wp2
   go_ret2
   exact RET.out hun.symm
  have q2:decide ((N:Int)-(k:Int)<(run:Int))=false:=by simp;omega
  by_cases c5:decide (k=0)=false∧x=l0
  case pos =>
   rw[dif_pos (.inr (.inr (.inr c5)))]at hun
   obtain⟨c6,rfl⟩:=c5
   have hk0:0<k:=by have:=of_decide_eq_false c6;omega
   have q3:decide ((0:Int)<(k:Int))=true:=by simp;omega
   go_wp2_with fail
   refine C1.out.mono ?_
   rintro z w' ⟨rfl,rfl⟩
   go_wp2_with fail
   refine C2.out.mono ?_
   rintro z w' ⟨rfl,rfl⟩
   go_wp2
   go_ret2
   exact RET.out hun.symm
  rw[dif_neg (by
   rintro (h|h|h|h)
   ·exact h rfl
   ·exact c3 h
   ·exact c4 h
   ·exact c5 h)]at hun
  clear RET
  have HUN:=zH hun
  clear hun
  have c5':k=0∨0<k∧x≠l0:=by
   rcases Nat.eq_zero_or_pos k with h|h
   ·exact .inl h
   ·exact .inr ⟨h,fun hx=>c5 ⟨by simp;omega,hx⟩⟩
  clear c5
  go_wp2_with fail
  refine C1.out.mono ?_
  rintro z w' ⟨rfl,rfl⟩
  go_wp2_with fail
  refine C2.out.mono ?_
  rintro z w' ⟨rfl,rfl⟩
  clear C1 C2
  go_upto_region 8 with fail
  go_cut [61] (fun t wx=>t=.bool false∧wx=wr)
  case first =>
   rcases c5' with h|⟨h,hx⟩
   ·subst h
    go_wp2_with fail
    go_meet
    case rel=>exact⟨by simp;omega,rfl⟩
   ·have q3:decide ((0:Int)<(k:Int))=true:=by simp;omega
    have q4:(x==l0)=false:=by simpa using hx
    go_wp2_with fail
    go_meet
    case rel=>exact⟨by simp;omega,rfl⟩
  case rest =>
   obtain⟨rfl,rfl⟩:=hcut
   clear q2 hwr c5'
   have hrun:k+run≤N:=by omega
   go_wp2
   go_loopw [10,12,65] (fun nv iv kv wq=>∃j:Nat,j≤run∧kv=.int .u64 j∧nv=.int .i64 (lastD n0 (sums n0 (List.replicate j x)))∧iv=.int .i64 (k+j:Nat)∧(sums n0 (List.replicate j x)).all ok=true ∧
    Vec 5 wq (.slice (some ⟨g,o,none⟩) N cap) N ((halfE set es (acc++sums n0 (List.replicate j x))).flatMap evV)∧Nw W wq) (fun _ _ kv _=>run-(intOf kv).toNat)
   case atStart=>exact⟨0,Nat.zero_le _,rfl,by simp[sums,lastD],by simp,by simp[sums],by simpa [sums] using HS.out,HW.out⟩
   case round =>
    obtain⟨j,hj,rfl,rfl,rfl,hall,hs2,hw2⟩:=hrel
    clear HS HW
    have HS:=zH hs2
    have HW:=zH hw2
    have HALL:=zH hall
    clear hs2 hw2 hall
    by_cases hjr:j<run
    case neg =>
     obtain rfl:j=run:=by omega
     have hr:=HUN.out
     rw[if_neg (by rw[HALL.out];simp)]at hr
     have hal:(acc++sums n0 (List.replicate j x)).length=k+j:=by rw[List.length_append,HK.out,sums_len,List.length_replicate]
     go_wp2
     go_roundw
     case rel =>
      refine⟨p2,lastD n0 (sums n0 (List.replicate j x)),x,acc++sums n0 (List.replicate j x),rfl,rfl,rfl,by rw[hal],by omega,⟨by omega,by omega⟩,?_,HS.out,HW.out⟩
      rw[hal,show N-(k+j)=N-k-j by omega,show decide (k+j=0)=false by simp;omega]
      exact hr
     case measure=>simp[intOf];omega
    obtain⟨A,hA⟩:=zN (acc++sums n0 (List.replicate j x))
    obtain⟨q,hq⟩:=zN (k+j)
    have hlen:A.length=q:=by rw[←hA,←hq,List.length_append,HK.out,sums_len,List.length_replicate]
    rw[hA]at HS
    rw[hq]
    obtain⟨v,hv⟩:=zN (w64 (lastD n0 (sums n0 (List.replicate j x))+x))
    have hwv:IntKind.i64.wrap (lastD n0 (sums n0 (List.replicate j x))+x)=v:=by rw[IntKind.wrap_i64];exact hv
    have hsn:sums n0 (List.replicate (j+1) x)=sums n0 (List.replicate j x)++[v]:=by rw[replicate_sums,hv]
    have hA2:acc++sums n0 (List.replicate (j+1) x)=A++[v]:=by rw[hsn,←List.append_assoc,hA]
    have hlast:lastD n0 (sums n0 (List.replicate (j+1) x))=v:=by rw[hsn,lastD_snoc]
    obtain⟨nn,hnn⟩:=zN (lastD n0 (sums n0 (List.replicate j x)))
    rw[hnn]at hwv
    rw[hnn]
    have hq2:q<N:=by omega
    obtain⟨hl,hset⟩:=halfE_snoc set es A v (by rw[hlen,HN.out];omega)
    obtain⟨H,hH⟩:=zN (halfE set es A)
    have hHl:H.length=N:=by rw[←hH,halfE_len _ _ _ (by rw[hlen,HN.out];omega),HN.out]
    simp only[hH,hlen]at hl hset
    rw[hH]at HS
    have hcl:=HS.out.2.resolve_left (fun h=>by cases h.1)
    obtain⟨g',o',cap',he,-,-,hgl,hsome,hfroz,-⟩:=hcl
    obtain⟨⟨rfl,rfl⟩,rfl⟩:(g=g'∧o=o')∧cap=cap':=by simpa using he
    have hcap:N≤cap:=by obtain⟨_,_,he2,h1,-⟩:=HS.out.len;cases he2;exact h1
    have hqc:q*5+c<cap*5:=by omega
    obtain⟨u,hu⟩:=Option.isSome_iff_exists.1 (hsome (q*5+c) hqc)
    have hfz:=hfroz (q*5+c) hqc
    rw[←Nat.add_assoc]at hu hfz
    have CP:=zH (HP.out.call wr g (o+q*5) u v hgl hu hfz)
    have hjc:q*5+c<(H.flatMap evV).length:=by rw[evs_len,hHl];omega
    have hvec:=HS.out.setAt hjc (val v)
    rw[set_flat (set (H[q]'hl) v) H q hl hc5 (HP.out.vals _ _),hset,←Nat.add_assoc]at hvec
    have HVEC:=zH hvec
    have NW2:Hid (Nw W (wr.setCell ⟨g,o+q*5+c,none⟩ (val v))):=zH (Only.setCell HW.out (fun h=>by simp only at h;omega) _)
    clear hl hset hsome hfroz he hvec hu hfz hjc hcap hqc hnn
    by_cases hok:ok v=true
    case neg =>
     have hok':ok v=false:=by simpa using hok
     rw[hok']at CP
     have hr:=HUN.out
     rw[if_pos (by
      have h1:run=(j+1)+(run-(j+1)):=by omega
      rw[h1,←List.replicate_append_replicate,sums_append,List.all_append,hsn,List.all_append]
      simp[hok'])]at hr
     go_wp2_with (refine CP.out.mono ?_)
     rintro z w' ⟨rfl,rfl⟩
     go_wp2
     go_ret2
     exact⟨NW2.out,.inl ⟨hr.symm,rfl⟩⟩
    rw[hok]at CP
    go_wp2_with (refine CP.out.mono ?_)
    rintro z w' ⟨rfl,rfl⟩
    go_wp2
    go_roundw
    case rel=>exact⟨j+1,by omega,by go_num,by rw[hlast],by rw[←hq];go_num,by rw[hsn,List.all_append,HALL.out];simp[hok],by rw[hA2];exact HVEC.out,NW2.out⟩
    case measure=>simp[intOf];omega
end Go.Proofs.YtkbenkldfehhlaaGreatDoor
