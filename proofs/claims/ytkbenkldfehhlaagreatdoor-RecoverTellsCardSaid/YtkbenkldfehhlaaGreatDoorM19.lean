/-
  Texts merged by a program of this claim's: LogK, LogCalm, AwPlain, AwLog, AckPlain, Firsts, Close, Open.
-/
import Derived.Test.YtkbenkldfehhlaaGreatDoorLogJS
import Derived.Test.YtkbenkldfehhlaaGreatDoorM6
import Derived.Test.YtkbenkldfehhlaaGreatDoorM7
import Derived.Test.YtkbenkldfehhlaaGreatDoorM11
import Derived.Test.YtkbenkldfehhlaaGreatDoorM10
import Derived.Test.YtkbenkldfehhlaaGreatDoorM1
import Derived.Carry
import Derived.ChangeCalls
import Derived.Deep.DeepHandedRow
import Derived.Lib.LaidTab
import Derived.Deep.Slices
import Derived.ChangeSlices
import Derived.ChangeShapes
namespace Go.Proofs.YtkbenkldfehhlaaGreatDoor
open Go Go.RowKit Go.Sort
set_option maxRecDepth 100000
set_option maxHeartbeats 1600000
section
variable {X:Nat→Prop}{w0 w w':World}{b:Nat}{d d':Dsk}
def Created (X:Nat→Prop) (w0 w:World) (b:Nat) (d':Dsk) (x:Int) (L:Lg) (e:Ending) (w':World):Prop:=
 Kept X w w'∧((x=0∧∃p,e=.returned (.tuple #[.pointer (some ⟨p,0,none⟩),.int .i64 0])∧HasL X w0 w' p b d' L)∨(x≠0∧e=.returned (.tuple #[.pointer none,.int .i64 x])∧HasX X w0 w' b d'))
theorem seg0_ok:(⟨segName 0,0,0,false⟩:Pc).Ok:=by
 refine⟨?_,by unfold in64;simp,by unfold in64;simp⟩
 have:=Lib.decDigits_length 0
 have:=Lib.nDigits_le20 0 (by omega)
 simp only[segName,List.length_cons];omega
theorem Create_ok (h:HasX X w0 w b d) (ht:Tab w0) (size:Int) :
  Calls Tryz.prog 25 #[.pointer (some ⟨b,0,none⟩),.int .i64 size] w (Created X w0 w b (createD d size).1 (createD d size).2 (newLg size)):=by
 have H:=zH h
 have HT:=zH ht
 clear h ht
 by_cases hs:64≤size∧size≤16777216
 case neg =>
  have E:Hid (createD d size=(d,2)):=zH (by unfold createD;rw[if_pos (by omega)])
  have HZ:=zH (sized_ok size (ok:=false) (by simp[hs]) w)
  rw[E.out]
  clear hs E
  go_enter Tryz.func25,Tryz.ntmps25
  go_wp2_with fail
  refine HZ.out.mono ?_
  rintro e w1 ⟨rfl,rfl⟩
  go_wp2
  refine bodyPost_ret (v:=.tuple #[.pointer none,.int .i64 2]) (by simp[results,Tryz.results25,go_sem]) rfl ⟨Kept.refl _,.inr ⟨by decide,rfl,H.out⟩⟩
 have HZ:=zH (sized_ok size (ok:=true) (by simp[hs]) w)
 obtain⟨l0,x0,hrd⟩:∃l x,d.read manifestS=(l,x):=⟨_,_,rfl⟩
 have HRD:=zH (H.out.read manifestS hrd)
 have hns:¬ (size<64∨16777216<size):=by omega
 have E0:Hid (x0=0→createD d size=(d,14)):=zH (fun hx=>by unfold createD;rw[if_neg hns,hrd,if_pos hx])
 have E1:Hid (x0≠0→x0≠13→createD d size=(d,x0)):=zH (fun h1 h2=>by unfold createD;rw[if_neg hns,hrd,if_neg h1,if_pos h2])
 obtain⟨r1,hr1⟩:=zN (d.begun 0)
 obtain⟨r2,hr2⟩:=zN (r1.1.install (newLg size).l)
 have E2:Hid (x0=13→r1.2≠0→createD d size=r1):=zH (fun h1 h2=>by unfold createD;rw[if_neg hns,hrd,if_neg (by simp[h1]),if_neg (by simp[h1]),hr1,if_pos h2])
 have E3:Hid (x0=13→r1.2=0→createD d size=r2):=zH (fun h1 h2=>by unfold createD;rw[if_neg hns,hrd,if_neg (by simp[h1]),if_neg (by simp[h1]),hr1,if_neg (by simp[h2]),hr2])
 have R1:=zH hr1
 have R2:=zH hr2
 obtain⟨ms,hms⟩:=zN (manifestS)
 clear hs hrd hns hr1 hr2 hms ms
 unfold manifestS at HRD
 go_enter Tryz.func25,Tryz.ntmps25
 go_wp2_with fail
 refine HZ.out.mono ?_
 rintro e w1 ⟨rfl,rfl⟩
 go_wp2_with fail
 refine HRD.out.mono ?_
 rintro e w1 ⟨v1,rfl,q1,n1,-⟩
 obtain⟨xa,xc,rfl,-⟩:=q1.rd.len
 have N1:=zH n1
 clear q1 n1 HRD HZ
 by_cases hx0:x0=0
 ·have E:=zH (E0.out hx0)
  subst hx0
  go_wp2
  refine bodyPost_ret (v:=.tuple #[.pointer none,.int .i64 14]) (by simp[results,Tryz.results25,go_sem]) rfl ?_
  rw[E.out]
  exact⟨N1.out.kept,.inr ⟨by simp,rfl,H.out.nw N1.out⟩⟩
 have hb0:(x0==0)=false:=by simpa using hx0
 by_cases hx1:x0=13
 case neg =>
  have E:=zH (E1.out hx0 hx1)
  have hb1:(x0 !=13)=true:=by simpa using hx1
  have HX:=zH hx0
  clear hx0 hx1
  go_wp2
  refine bodyPost_ret (v:=.tuple #[.pointer none,.int .i64 x0]) (by simp[results,Tryz.results25,go_sem]) rfl ?_
  rw[E.out]
  exact⟨N1.out.kept,.inr ⟨HX.out,rfl,H.out.nw N1.out⟩⟩
 have E2':=zH (E2.out hx1)
 have E3':=zH (E3.out hx1)
 subst hx1
 clear hx0 E0 E1 E2 E3
 have H1:=zH (H.out.nw N1.out)
 have HBG:=zH (begin_ok H1.out 0 (by omega) (HT.out.nw H1.out.base))
 go_wp2_with fail
 refine HBG.out.mono ?_
 rintro e w2 ⟨rfl,q1,q2⟩
 have hr1:=R1.out
 rw[hr1]at q1 ⊢
 have H2:=zH q1
 have K2:Hid (Kept X w w2):=zH (N1.out.kept.trans q2)
 obtain⟨sn,hsn⟩:=zN (segName 0)
 obtain⟨hb,hhb⟩:=zN ((headB 0).length)
 rw[hsn,hhb]
 have ES:=zH hsn
 have EH:=zH hhb
 clear q1 q2 hr1 hsn hhb HBG
 by_cases hx2:r1.2=0
 case neg =>
  have E:=zH (E2'.out hx2)
  have hbq:(r1.2 !=0)=true:=by simpa using hx2
  have HX:=zH hx2
  clear hx2
  go_wp2
  refine bodyPost_ret (v:=.tuple #[.pointer none,.int .i64 r1.2]) (by simp[results,Tryz.results25,go_sem]) rfl ?_
  rw[E.out]
  exact⟨K2.out,.inr ⟨HX.out,rfl,H2.out⟩⟩
 have E:=zH (E3'.out hx2)
 have hbq:(r1.2 !=0)=false:=by simpa using hx2
 clear hx2 E2' E3'
 have n3:=(Nw.refl w2).alloc (.cells #[.string ⟨sn.toArray⟩,.int .i64 0,.int .i64 0,.bool false] 98 (0,0))
 have hs3:=src_lit w2 98 (0,0) 4 1 1 [.string ⟨sn.toArray⟩,.int .i64 0,.int .i64 0,.bool false] rfl (by omega) (by decide)
 have P3:Hid (Pcs (w2.alloc (.cells #[.string ⟨sn.toArray⟩,.int .i64 0,.int .i64 0,.bool false] 98 (0,0))) (.slice (some ⟨w2.heap.size,0,none⟩) 1 1) (newLg size).l):=zH (by
  refine⟨?_,fun q hq=>?_⟩
  ·have:(newLg size).l.flatMap pcV=[.string ⟨sn.toArray⟩,.int .i64 0,.int .i64 0,.bool false]:=by simp[newLg,pcV,ES.out]
   rw[this]
   exact hs3
  ·simp only[newLg,List.mem_singleton]at hq
   subst hq;exact seg0_ok)
 have D3:Hid (HasX (fun k=>X k∨k=w2.heap.size) w0 (w2.alloc (.cells #[.string ⟨sn.toArray⟩,.int .i64 0,.int .i64 0,.bool false] 98 (0,0))) b r1.1):=zH (H2.out.alloc _)
 have HIN:=zH (Install_ok D3.out P3.out)
 have N3:=zH n3
 have hr2:=R2.out
 rw[hr2]at HIN
 clear n3 hs3 hr2
 go_wp2_with fail
 refine HIN.out.mono ?_
 rintro e w4 ⟨rfl,q1,q2⟩
 have D4:=zH q1
 have K4':=zH q2
 have K4:Hid (Kept X w w4):=zH ((K2.out.trans N3.out.kept).trans (q2.weak fun k hk=>.inl hk))
 have hg4:w2.heap.size<w4.heap.size:=Nat.lt_of_lt_of_le (by simp) q2.1
 have P4:Hid (Pcs w4 (.slice (some ⟨w2.heap.size,0,none⟩) 1 1) (newLg size).l):=zH (by
  refine⟨?_,P3.out.ok⟩
  obtain⟨e,⟨a,hv,hz⟩|⟨g',o',cap',hv,h1,h2,h3,h4⟩⟩:=P3.out.src
  ·cases hv
  ·injection hv with ea eb ec
   injection ea with ea
   injection ea with e1 e2
   subst e1 e2 ec
   exact⟨e,.inr ⟨_,0,1,rfl,h1,h2,hg4,fun j hj=>q2.cell (h4 j hj) (.inr rfl)⟩⟩)
 clear q1 q2 HIN
 by_cases hx3:r2.2=0
 case neg =>
  have hbq3:(r2.2 !=0)=true:=by simpa using hx3
  have HX:=zH hx3
  clear hx3
  go_wp2
  refine bodyPost_ret (v:=.tuple #[.pointer none,.int .i64 r2.2]) (by simp[results,Tryz.results25,go_sem]) rfl ?_
  rw[E.out]
  exact⟨K4.out,.inr ⟨HX.out,rfl,D4.out.weak fun k hk=>.inl hk⟩⟩
 have hbq3:(r2.2 !=0)=false:=by simpa using hx3
 have HX:=zH hx3
 clear hx3
 go_wp2
 refine bodyPost_ret (v:=.tuple #[.pointer (some ⟨w4.heap.size,0,none⟩),.int .i64 0]) (by simp[results,Tryz.results25,go_sem]) rfl ?_
 rw[E.out]
 have n5:=(Nw.refl w4).alloc (.cells #[.pointer (some ⟨b,0,none⟩),.int .i64 size,.slice (some ⟨w2.heap.size,0,none⟩) 1 1,.int .i64 0,.int .i64 0,.int .i64 hb,.bool false] 116 (0,0))
 have hb5:=heap_alloc_new w4 (.cells #[.pointer (some ⟨b,0,none⟩),.int .i64 size,.slice (some ⟨w2.heap.size,0,none⟩) 1 1,.int .i64 0,.int .i64 0,.int .i64 hb,.bool false] 116 (0,0))
 have hs0:=H2.out.base.size
 have hs4:=D4.out.base.size
 refine⟨K4.out.trans n5.kept,.inl ⟨HX.out,w4.heap.size,rfl,w2.heap.size,0,1,⟨?_,?_,?_⟩,?_,hs4,fun hx=>?_,hs0,by omega,fun hx=>by have:=H2.out.lt _ hx;omega⟩⟩
 ·rw[hb5]
  simp[newLg,EH.out]
 ·exact P4.out.nw n5
 ·simp[newLg]
 ·refine D4.out.nwY n5 (fun k hk=>?_)
  rcases hk with hk|rfl|rfl
  ·exact .inl (.inl hk)
  ·exact .inr ⟨Nat.le_refl _,by simp⟩
  ·exact .inl (.inr rfl)
 ·have:=D4.out.lt _ (.inl hx)
  omega
end
end Go.Proofs.YtkbenkldfehhlaaGreatDoor
namespace Go.Proofs.YtkbenkldfehhlaaGreatDoor
open Go
structure LInv (d:Dsk) (L:Lg) (A:List Pc) (p:Pc):Prop where
 calm:Calm d
 over:L.over=false
 l:L.l=A++[p]
 right:RightP A p
 names:(namesF d.files).Perm (manifestS::L.l.map Pc.name)
 seg:∀q∈L.l,q.name=segName q.first.toNat
 acked0:p.first≤L.acked
 acked1:L.acked≤L.n
 man:fileOf d.files manifestS=⟨manifestB L.l,(manifestB L.l).length⟩
section
variable {d:Dsk}{L:Lg}{A:List Pc}{p:Pc}
theorem LInv.open_ (h:LInv d L A p):lastP L.l=p:=by rw[h.l,lastP_snoc]
theorem LInv.mem (h:LInv d L A p):p.name∈namesF d.files:=by
 rw[h.names.mem_iff,h.l];simp
theorem put_calm (h:LInv d L A p) (es:List Ev) (hroom:((usedF d.files+(frmB es).length:Nat):Int)≤d.most) :
  L.put d es=⟨{ d with files:=setF d.files p.name ⟨(fileOf d.files p.name).bytes++frmB es,(fileOf d.files p.name).synced⟩ },{ L with n:=L.n+es.length,bytes:=L.bytes+(frmB es).length },0⟩ ∧
   LInv { d with files:=setF d.files p.name ⟨(fileOf d.files p.name).bytes++frmB es,(fileOf d.files p.name).synced⟩ } { L with n:=L.n+es.length,bytes:=L.bytes+(frmB es).length } A p ∧
   usedF (setF d.files p.name ⟨(fileOf d.files p.name).bytes++frmB es,(fileOf d.files p.name).synced⟩)=usedF d.files+(frmB es).length:=by
 have hpm:¬ p.name=manifestS:=(okPiece_name h.right.name).2.1
 have e:=append_calm (n:=p.name) (b:=frmB es) h.calm (okPiece_name h.right.name).1 hroom (.inl h.mem)
 have u:=usedF_setF d.files p.name ⟨(fileOf d.files p.name).bytes++frmB es,(fileOf d.files p.name).synced⟩
 refine⟨?_,⟨h.calm.setF _ _,h.over,h.l,h.right,?_,h.seg,h.acked0,?_,?_⟩,?_⟩
 ·unfold Lg.put
  rw[h.open_,e]
  simp
 ·simp only
  rw[nmF_setF,if_pos h.mem];exact h.names
 ·have:=h.acked1
  simp only;omega
 ·simp only
  rw[fileOf_setF,if_neg hpm];exact h.man
 ·simp only[List.length_append]at u
  omega
theorem lsync_calm (h:LInv d L A p) :
  L.sync d=⟨{ d with files:=setF d.files p.name ⟨(fileOf d.files p.name).bytes,(fileOf d.files p.name).bytes.length⟩ },{ L with acked:=L.n },0⟩ ∧
   LInv { d with files:=setF d.files p.name ⟨(fileOf d.files p.name).bytes,(fileOf d.files p.name).bytes.length⟩ } { L with acked:=L.n } A p ∧
   usedF (setF d.files p.name ⟨(fileOf d.files p.name).bytes,(fileOf d.files p.name).bytes.length⟩)=usedF d.files:=by
 have hpm:¬ p.name=manifestS:=(okPiece_name h.right.name).2.1
 have e:=sync_calm h.calm h.mem
 have u:=usedF_setF d.files p.name ⟨(fileOf d.files p.name).bytes,(fileOf d.files p.name).bytes.length⟩
 have a0:=h.acked0
 have a1:=h.acked1
 refine⟨?_,⟨h.calm.setF _ _,h.over,h.l,h.right,?_,h.seg,by simp only;omega,by simp only;omega,?_⟩,?_⟩
 ·unfold Lg.sync
  rw[h.over,h.open_,e]
  simp
 ·simp only
  rw[nmF_setF,if_pos h.mem];exact h.names
 ·simp only
  rw[fileOf_setF,if_neg hpm];exact h.man
 ·simp only at u
  omega
theorem add_stay (h:LInv d L A p){es:List Ev}(h1:es.length≠0) (h2:es.length≤4096) (hst:¬ (p.first<L.n∧L.size≤L.bytes)):L.add d es=L.put d es:=by
 unfold Lg.add Lg.roomed
 rw[h.over,h.open_,if_neg hst,if_neg (by simp),if_neg h1,if_neg (by omega),if_neg (by simp)]
theorem create_calm' (m:Int) (hm:40≤m){size:Int}(hs:64≤size) (hs2:size≤16777216) :
  ∃F,createD (newDsk m) size=({ newDsk m with files:=F },0)∧LInv { newDsk m with files:=F } (newLg size) [] ⟨segName 0,0,0,false⟩∧usedF F≤40∧F=[(segName 0,⟨headB 0,(headB 0).length⟩),(manifestS,⟨manifestB (newLg size).l,(manifestB (newLg size).l).length⟩)]:=by
 have hc:Calm (newDsk m):=⟨rfl,rfl,by simp[newDsk,namesF]⟩
 have hR:RightP [] ⟨segName 0,0,0,false⟩:=⟨by simp,rfl,segName_ok (by decide),by simp,rfl,rfl,rfl⟩
 have hrl:rightL (newLg size).l=true:=(rightL_iff [] _).2 hR
 have hs0:segName 0=[115,48]:=by rw[segName,Lib.decDigits_one (by omega)];rfl
 have hh:(headB 0).length=9:=by rw[headB,uintB_small (by omega)];rfl
 have hml:(manifestB (newLg size).l).length=15:=by
  simp only[manifestB,manifestIn,newLg,sealB,List.flatMap_cons,List.flatMap_nil,pieceB,blobB,hs0,List.length_append,List.length_cons,List.length_nil,sumB_len]
  rw[uintB_small (by simp),uintB_small (by simp),uintB_small (by simp)]
  simp
 have e1:=fresh_calm (n:=segName 0) (b:=headB 0) hc (okPiece_name (segName_ok (by decide))).1 (by simp[newDsk,usedF,hh];omega) (by simp[newDsk])
 have e1':(newDsk m).begun 0=({ newDsk m with files:=[(segName 0,⟨headB 0,(headB 0).length⟩)] },0):=e1
 have c1:Calm { newDsk m with files:=[(segName 0,(⟨headB 0,(headB 0).length⟩:DFile))] }:=hc.same _ (by simp[namesF])
 have e2:=install_calm c1 hrl (by simp[newDsk,usedF,hh,hml];omega) (by simp)
 have hne:¬ segName 0=nextS:=(okPiece_name (segName_ok (by decide))).2.2
 have hnm:¬ segName 0=manifestS:=(okPiece_name (segName_ok (by decide))).2.1
 have e2':setF (delF [(segName 0,(⟨headB 0,(headB 0).length⟩:DFile))] nextS) manifestS ⟨manifestB (newLg size).l,(manifestB (newLg size).l).length⟩=[(segName 0,⟨headB 0,(headB 0).length⟩),(manifestS,⟨manifestB (newLg size).l,(manifestB (newLg size).l).length⟩)]:=by
  simp[delF,setF,hne,hnm]
 simp only at e2
 rw[e2']at e2
 refine⟨_,?_,⟨⟨rfl,rfl,?_⟩,rfl,rfl,hR,?_,?_,by simp[newLg],by simp[newLg],?_⟩,?_,rfl⟩
 ·unfold createD
  have hrd:(newDsk m).read manifestS=([],13):=rfl
  rw[if_neg (by omega),hrd,if_neg (by decide),if_neg (by decide),e1',if_neg (by simp),e2]
 ·simp[namesF,hnm]
 ·simp only[namesF,newLg,List.map_cons,List.map_nil]
  exact List.Perm.swap _ _ _
 ·intro q hq
  simp only[newLg,List.mem_singleton]at hq
  subst hq;rfl
 ·simp[fileOf,getF,hnm]
 ·simp[usedF,hh,hml]
end
theorem intB0:intB 0=[0]:=by unfold intB zig;rw[if_pos (by omega),uintB_small (by omega)];rfl
theorem intB1:intB 1=[2]:=by unfold intB zig;rw[if_pos (by omega),uintB_small (by omega)];rfl
theorem w64_0:w64 0=0:=by decide
theorem w64_1:w64 1=1:=by decide
theorem frm_of {e:Ev}(h:(putE Ev.zero e).length=5):(frmB [e]).length=11:=by
 have hb:(bodyB [e]).length=6:=by
  simp only[bodyB,putL,List.length_cons,List.length_nil,List.length_append,h]
  rw[uintB_small (by omega)]
  rfl
 simp only[frameB,sealB,List.length_append,sumB_len,hb]
 rw[uintB_small (by omega)]
 rfl
def pc0:Pc:=⟨segName 0,0,0,false⟩
theorem seg0_eq:segName 0=[115,48]:=by rw[segName,Lib.decDigits_one (by omega)];rfl
theorem head0:(headB 0).length=9:=by rw[headB,uintB_small (by omega)];rfl
theorem manifestB_le {l:List Pc}(h:rightL l=true):(manifestB l).length≤62*l.length+9:=by
 obtain⟨h1,h2,h3⟩:=rightL_bound h
 have h4:=flat_len (l:=l) fun p hp=>by
  obtain⟨a,b,c,d,e⟩:=h3 p hp
  exact pieceB_len a (by omega) (by omega)
 have h5:=uintB_len l.length 1 (by omega) (by omega)
 simp only[manifestB,manifestIn,sealB,List.length_append,List.length_cons,List.length_nil,sumB_len]
 omega
section
variable {m:Int}{d:Dsk}{L:Lg}{k a:Nat}
end
open Go.RowKit Go.Sort
set_option maxRecDepth 100000
set_option maxHeartbeats 1600000
section
variable {X:Nat→Prop}{w0 w w':World}{p b:Nat}{d d':Dsk}{L:Lg}{m:Int}{k a:Nat}
theorem HasL.len (h:HasL X w0 w p b d L){n:Nat}(hn:L.n=n):Calls Tryz.prog 19 #[.pointer (some ⟨p,0,none⟩)] w fun e w'=>e=.returned (.int .i64 n)∧w=w':=by
 obtain⟨g,o,cap,h⟩:=h
 rw[←hn];exact Len_ok h.mem
theorem HasL.ack (h:HasL X w0 w p b d L){n:Nat}(hn:L.acked=n):Calls Tryz.prog 20 #[.pointer (some ⟨p,0,none⟩)] w fun e w'=>e=.returned (.int .i64 n)∧w=w':=by
 obtain⟨g,o,cap,h⟩:=h
 rw[←hn];exact Acked_ok h.mem
theorem HasL.pok (h:HasL X w0 w p b d L):∀q∈L.l,q.Ok:=by
 obtain⟨g,o,cap,h⟩:=h
 exact h.mem.pcs.ok
theorem ev_lit (w:World) (e:Ev) (he:e.Ok) (c:Nat) (hc:1≤c) (hm:c≤maxLen):Evs (w.alloc (.cells (evV e).toArray 87 (0,0))) (.slice (some ⟨w.heap.size,0,none⟩) 1 c) [e]:=
 ⟨by have:=src_lit w 87 (0,0) 5 1 c (evV e) rfl hc hm;simpa using this,fun x hx=>by rw[List.mem_singleton]at hx;subst hx;exact he⟩
end
end Go.Proofs.YtkbenkldfehhlaaGreatDoor
namespace Go.Proofs.YtkbenkldfehhlaaGreatDoor
open Go
section
variable {size:Int}{c:Nat}{d:Dsk}{L:Lg}
end
open Go.RowKit Go.Sort
set_option maxRecDepth 100000
set_option maxHeartbeats 800000
section
variable {P:Program}{w:World}{t kt et:TypeId}{m clock:Nat}{L:List En}{k:Str}
end
end Go.Proofs.YtkbenkldfehhlaaGreatDoor
namespace Go.Proofs.YtkbenkldfehhlaaGreatDoor
open Go Go.ChangeShapes Go.RowKit Go.WideShapes
section
variable {H:Type}{enc:TypeId×Value→H}{P:Program}{W W':World}
theorem trodAll_nw (hl:laidOutB P=true) (hb:Nw W W'){sp:Nat→Bool}:∀{ts:List TypeId}{vs:List Value}{ds:List (DataW H)}{ps:List MemPlace},(∀t∈ts,P.readableRec t=true∧t<P.types.size) →
  DataW.TrodAll enc P W 0 (fun _=>true) true ts vs ds ps→(∀p∈ps,p.block<W.heap.size)→(∀p∈ps,sp p.block=true)→DataW.TrodAll enc P W' 0 sp true ts vs ds ps
 |[],[],[],_,_,h,_,_=>h
 |_::_,_::_,_::_,_,ht,⟨p,q,h1,h2,e⟩,hlt,hs =>
  ⟨p,q,WideElems.Trod_stays hl (ht _ (List.mem_cons.2 (Or.inl rfl))).1 (ht _ (List.mem_cons.2 (Or.inl rfl))).2 h1
   (fun x hx=>hb.below.same (hlt x (by rw[e];exact List.mem_append_left _ hx))) (fun x hx=>hs x (by rw[e];exact List.mem_append_left _ hx)),
   trodAll_nw hl hb (fun t h=>ht t (List.mem_cons.2 (Or.inr h))) h2 (fun x hx=>hlt x (by rw[e];exact List.mem_append_right _ hx)) (fun x hx=>hs x (by rw[e];exact List.mem_append_right _ hx)),e⟩
theorem post_true {f:Func}{s:ChangeSpec}{apart fresh handsOn again:Bool}{args:Array Value}{ds gs:List (DataW H)}{before:List MemPlace}{tb:TypeId}
  (hl:laidOutB P=true) (hts:(f.params.toList.all fun t=>P.readableRec t && decide (t<P.types.size))=true) (hr:f.resultTypes=#[tb]) (htb:P.underlying tb=some .bool) (hv:s.vars=[])
  (hs:∀ds:List (DataW H),ds.length=f.params.size→s.fn H (ds++[])={ results:=[.lit (.bool true)],args:=ds })
  (hW:DataW.Whole enc P f.params.toList s.vars apart W args.toList ds gs before) (hb:Nw W W'):s.post enc P f apart fresh handsOn again W args (.bool true) W':=by
 have hlt:=hW.lt
 have hW':=hW
 obtain⟨p,q,hA,hV,rfl,hz,hn⟩:=hW
 rw[hv]at hV
 obtain⟨rfl,rfl⟩:=trodVars_none hV
 have hlen:ds.length=f.params.size:=by rw[(trodAll_length hA).2];simp
 have he:=hs ds hlen
 have ht:∀t∈f.params.toList,P.readableRec t=true∧t<P.types.size:=fun t ht=>by
  have:=List.all_eq_true.1 hts t ht
  simpa using this
 have hargs:∀sp:Nat→Bool,(∀x∈p++[],sp x.block=true)→DataW.TrodAll enc P W' 0 sp true f.params.toList args.toList (s.fn H (ds++[])).args (p++[]):=fun sp hsp=>by
  rw[he]
  simp only[List.append_nil]at hsp hlt ⊢
  exact trodAll_nw hl hb ht hA hlt hsp
 have hres:∀(b:Nat) (sp:Nat→Bool) (hd:Bool),DataW.TrodAll enc P W' b sp hd f.resultTypes.toList ((Value.bool true).resultList f.resultTypes.size) (s.fn H (ds++[])).results []:=fun b sp hd=>by
  rw[he,hr]
  exact trodAll_mk1 (shut_bool htb true)
 have hvars:∀sp:Nat→Bool,DataW.TrodVars enc P W' sp s.vars (s.fn H (ds++[])).vars []:=fun sp=>by
  rw[he,hv];rfl
 refine⟨ds,[],p++[],[],p++[],[],hW',hres _ _ _,hargs _ (fun x hx=>by simpa using hlt x hx),hvars _,hb.below.frame _,fun _=>⟨ok_one hr rfl (okWide_bool_mk htb true),_,_,([]++(p++[]))++[],⟨[]++(p++[]),[],trodAll_append (hargs _ (fun _ _=>rfl)) (hres _ _ _),hvars _,rfl,?_,?_⟩,?_⟩⟩
 ·intro b off hp
  simp only[List.append_nil,List.nil_append]at hp hz hlt
  have hbk:b<W.heap.size:=hlt _ hp
  rw[hb.below.frozen (p:=⟨b,off,_⟩) hbk]
  exact hz b off hp
 ·intro ha
  simpa using hn ha
 ·intro x hx _
  simpa using hx
end
section
variable {H:Type}{enc:TypeId×Value→H}{P:Program}{W:World}
theorem u8_of_int {z:Int}(h:(Lit.int .u8 z).wf=true):z=((UInt8.ofNat z.toNat).toNat:Int):=by
 simp only[Lit.wf,Bool.and_eq_true,decide_eq_true_eq]at h
 have h1:0≤z:=by have:=h.1;rwa [show IntKind.u8.min=0 from rfl]at this
 have h2:z≤255:=by have:=h.2;rwa [show IntKind.u8.max=255 from rfl]at this
 rw[UInt8.toNat_ofNat']
 omega
end
end Go.Proofs.YtkbenkldfehhlaaGreatDoor
