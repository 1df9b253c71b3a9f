/-
  Texts merged by a program of this claim's: RecoverTells.
-/
import Derived.Test.YtkbenkldfehhlaaGreatDoorM26
import Derived.Test.YtkbenkldfehhlaaGreatDoorM30
import Derived.Test.YtkbenkldfehhlaaGreatDoorM37
import Derived.Test.YtkbenkldfehhlaaGreatDoorM38
import Derived.BigQuiet
namespace Go.Proofs.YtkbenkldfehhlaaGreatDoor
open Go Go.RowKit Go.Sort
set_option maxRecDepth 100000
set_option maxHeartbeats 3200000
theorem OwnE.evs {w w':World}{v:Value}{l:List Ev}(h:OwnE w w' v l) (ok:∀e∈l,e.Ok):Evs w' v l:=⟨h.1.src,ok⟩
theorem Tw.docsN {Y:Nat→Prop}{w0 w:World}{b:Nat}{dp dd dd':Dsk}{v:Value}{P:Program}{f:FuncId}{args:Array Value}{E:Ending→Value→World→Prop}(h:Tw Y w0 w b dp v dd)
  (hc:∀X:Nat→Prop,(∀k,w.heap.size≤k→X k)→(∀k,X k→¬ Y k)→RD X w v dd→Calls P f args w fun e w'=>∃v',E e v' w'∧RD X w' v' dd'∧Nw w w') :
  Calls P f args w fun e w'=>∃v',E e v' w'∧Tw Y w0 w' b dp v' dd'∧Nw w w':=by
 obtain⟨X,h1,h2,h3⟩:=h
 have hlt:=h1.lt
 refine (hc (fun k=>X k∨w.heap.size≤k) (fun k hk=>.inr hk) (fun k hk hy=>hk.elim (fun h=>h3 k h hy) (fun h=>by have:=hlt k (.inr hy);omega)) (h2.mono fun k hk=>.inl hk)).mono ?_
 rintro e w' ⟨v',he,hr,hn⟩
 refine⟨v',he,⟨fun k=>X k∨(w.heap.size≤k∧k<w'.heap.size),h1.nwY hn (fun k hk=>?_),hr.narrow.mono (fun k hk=>?_),fun k hk hy=>?_⟩,hn⟩
 ·rcases hk with (hk|hk)|hk
  ·exact .inl (.inl hk)
  ·exact .inr hk
  ·exact .inl (.inr hk)
 ·rcases hk with ⟨h|h,h'⟩
  ·exact .inl h
  ·exact .inr ⟨h,h'⟩
 ·rcases hk with hk|hk
  ·exact h3 k hk hy
  ·have:=hlt k (.inr hy);omega
namespace RecoverTells
theorem walk (W:World) (hT:Tab W) (v0:Value) (x0:List (Str×List UInt8)) (x1 x2:Int) (hx0:RdK 2 (isFile W) W v0 x0) (_hx1 : -9223372036854775808≤x1∧x1≤9223372036854775807) (hx2 : -9223372036854775808≤x2∧x2≤9223372036854775807) :
  Calls Tryz.prog 3 #[v0,.int .i64 x1,.int .i64 x2] W fun e W'=>e=.returned (.bool true)∧Nw W W':=by
 have hf:=hx0.files
 have SM:=zH (small6_ok hf)
 have HF:=zH hf
 have HT:=zH hT
 obtain⟨fa,fc,rfl,-⟩:=hf
 obtain⟨fn,hfn⟩:=zN (x0.length)
 rw[hfn]at SM HF ⊢
 have HFN:=zH hfn
 clear hT hx0 hfn
 cases hsm:smallF x0
 case false =>
  rw[hsm]at SM
  have AW:=zH (awake6_ok W HT.out)
  clear hsm
  go_enter Tryz.func3,Tryz.ntmps3
  go_wp2_with fail
  refine SM.out.mono ?_
  rintro z w1 ⟨rfl,rfl⟩
  go_wp2_with fail
  refine AW.out.mono ?_
  rintro z w1 ⟨rfl,n1⟩
  have N1:=zH n1
  clear n1
  go_wp2
  go_ret
  exact⟨rfl,N1.out⟩
 rw[hsm]at SM
 have MD:Hid (Calls Tryz.prog 7 #[.slice fa fn fc] W fun e w'=>∃(b:Nat) (m:Int) (a:Option Addr) (n c:Nat) (la:Int) (dn:Bool),e=.returned (.tuple #[.pointer (some ⟨b,0,none⟩),.agg #[.int .i64 m,.slice a n c,.int .i64 la,.bool dn]]) ∧
   Tw (fun _=>False) W w' b (madeD x0) (.agg #[.int .i64 m,.slice a n c,.int .i64 la,.bool dn]) (madeD x0)):=zH (by
  unfold smallF at hsm
  simp only[Bool.and_eq_true,decide_eq_true_eq,List.all_eq_true]at hsm
  exact made_ok HF.out (by omega) (fun x hx=>by have:=(hsm.2 x hx).1;omega) (fun x hx=>by have:=(hsm.2 x hx).2;omega))
 obtain⟨D,hD⟩:=zN (madeD x0)
 have hmost:=madeD_most x0
 rw[hD]at MD hmost
 have HMO:=zH hmost
 clear hsm hD hmost HF
 go_enter Tryz.func3,Tryz.ntmps3
 go_wp2_with fail
 refine SM.out.mono ?_
 rintro z w1 ⟨rfl,rfl⟩
 clear SM
 go_wp2_with fail
 refine MD.out.mono ?_
 rintro z w1 ⟨b,m0,a0,n0,c0,la0,dn0,rfl,t1⟩
 clear MD
 have NB:=(Nw.refl w1).alloc (DB (.int .i64 m0) (.slice a0 n0 c0) (.int .i64 la0) (.bool dn0))
 have B2:=zH (heap_alloc_new w1 (DB (.int .i64 m0) (.slice a0 n0 c0) (.int .i64 la0) (.bool dn0)))
 have T2:=zH (t1.nwY (Z:=fun k=>k=w1.heap.size) NB (fun k hk=>.inr (by subst hk;simp)))
 have HP8:Hid (W.heap.size≤w1.heap.size):=zH t1.base.size
 obtain⟨p8,hp8⟩:=zN (w1.heap.size)
 rw[hp8]at B2 T2 HP8
 go_upto_region 4 with fail
 rw[show (Obj.cells #[.int .i64 m0,.slice a0 n0 c0,.int .i64 la0,.bool dn0] 28)=DB (.int .i64 m0) (.slice a0 n0 c0) (.int .i64 la0) (.bool dn0) from rfl]
 generalize w1.alloc (DB (.int .i64 m0) (.slice a0 n0 c0) (.int .i64 la0) (.bool dn0))=w2 at B2 T2 ⊢
 (try rw[hp8])
 clear hp8 NB t1
 obtain⟨⟨es,ps,gd,x⟩,hsc⟩:=zN (scanD unpackB D)
 have hok:=scanD_evs D
 rw[hsc]at hok
 have OK:=zH hok
 have HSC:=zH hsc
 obtain⟨ne,hne⟩:=zN (es.length)
 obtain⟨np,hnp⟩:=zN (ps.length)
 have HNE:=zH hne
 have HNP:=zH hnp
 clear hok hsc hne hnp
 have SC:=zH (Scan_ok T2.out.has (.inl den_unpack) HSC.out)
 go_wp2_with fail
 refine SC.out.mono ?_
 rintro z w3 ⟨v3,p3,rfl,o1,o2⟩
 have T3:=zH (T2.out.nw o1.2.1)
 have B3:=zH (o1.2.1.at_ B2.out)
 have E3:=zH (o1.evs OK.out)
 have P3:=zH o2.pcs
 obtain⟨ea,ec,rfl,-⟩:=o1.1.len
 obtain⟨pa,pc,rfl,-,-⟩:=o2.pcs.elem
 rw[HNE.out]at E3 ⊢
 rw[HNP.out]at P3 ⊢
 clear SC o1 o2 T2 B2
 obtain⟨b0,b1,b2,b3,-⟩:=box_cells B3.out
 have CS:Hid (Calls Tryz.prog 9 #[.agg #[.int .i64 m0,.slice a0 n0 c0,.int .i64 la0,.bool dn0]] w3 fun z w'=>∃v p,z=.returned (.tuple #[v,p,.int .i64 gd,.int .i64 x])∧OwnE w3 w' v es∧OwnP w3 w' p ps):=zH (by
  obtain⟨X,hX⟩:=T3.out.doc
  exact dScan6_ok hX (by rw[HMO.out];omega) HSC.out)
 go_wp2_with fail
 refine CS.out.mono ?_
 rintro z w4 ⟨v4,p4,rfl,o1,o2⟩
 have T4:=zH (T3.out.nw o1.2.1)
 have B4:=zH (o1.2.1.at_ B3.out)
 have E4:=zH (E3.out.nw o1.2.1)
 have P4:=zH (P3.out.nw o1.2.1)
 have F4:=zH (o1.evs OK.out)
 have Q4:=zH o2.pcs
 obtain⟨ea2,ec2,rfl,-⟩:=o1.1.len
 obtain⟨pa2,pc2,rfl,-,-⟩:=o2.pcs.elem
 rw[HNE.out]at F4 ⊢
 rw[HNP.out]at Q4 ⊢
 clear CS o1 o2 T3 B3 E3 P3 b0 b1 b2 b3
 have hxx:(x !=x)=false:=by simp
 have C:=zH (SameEvents_ok E4.out F4.out)
 go_wp2_with fail
 refine C.out.mono ?_
 rintro z w5 ⟨rfl,n5⟩
 have T5:=zH (T4.out.nw n5)
 have B5:=zH (n5.at_ B4.out)
 have P5:=zH (P4.out.nw n5)
 have Q5:=zH (Q4.out.nw n5)
 clear C n5 T4 B4 P4 Q4 E4 F4
 have C:=zH (SamePieces_ok P5.out Q5.out)
 go_wp2_with fail
 refine C.out.mono ?_
 rintro z w6 ⟨rfl,n6⟩
 have T6:=zH (T5.out.nw n6)
 have B6:=zH (n6.at_ B5.out)
 clear C n6 T5 B5 P5 Q5
 obtain⟨b0,b1,b2,b3,-⟩:=box_cells B6.out
 have hbl:=lt_of_block B6.out
 have C:=zH T6.out.same
 go_wp2_with fail
 refine C.out.mono ?_
 rintro z w7 ⟨rfl,n7⟩
 have T7:=zH (T6.out.nw n7)
 have B7:=zH (n7.at_ B6.out)
 clear C n7 T6 B6 b0 b1 b2 b3 hbl hxx
 obtain⟨D2,hD2⟩:=zN ((if 0≤x2 then D.armed x2 else D))
 have hmo2:D2.most=1048576:=by
  rw[←hD2]
  split
  ·rw[armed_most];exact HMO.out
  ·exact HMO.out
 have HMO2:=zH hmo2
 have HD2:=zH hD2
 clear hmo2 hD2 HSC OK HNE HNP HMO
 obtain⟨tb,htb⟩:=zN (decide (0≤x2))
 have HTB:=zH htb
 go_upto_if 62 with fail
 clear htb
 go_cut [62] (fun tv wx=>tv=.bool tb∧∃(m:Int) (a:Option Addr) (n c:Nat) (la:Int) (dn:Bool),Tw (fun k=>k=p8) W wx b D2 (.agg #[.int .i64 m,.slice a n c,.int .i64 la,.bool dn]) D2∧wx.heap[p8]? = some (DB (.int .i64 m) (.slice a n c) (.int .i64 la) (.bool dn)))
 case first =>
  cases tb
  case false =>
   have h:¬ 0≤x2:=by have:=HTB.out;simpa using this
   have hd:=HD2.out
   rw[if_neg h]at hd
   subst hd
   clear h
   go_wp2_with fail
   go_meet
   case rel=>exact⟨rfl,_,_,_,_,_,_,T7.out,B7.out⟩
  have h:0≤x2:=by have:=HTB.out;simpa using this
  have hd:=HD2.out
  rw[if_pos h]at hd
  have HDA:=zH hd
  clear h hd
  have C:=zH (T7.out.dsk (fun X hY hX=>hX.arm x2 hx2.2 HDA.out))
  go_wp2_with fail
  refine C.out.mono ?_
  rintro z w8 ⟨rfl,t8,k8⟩
  have T8:=zH t8
  have B8:=zH (k8.at_ B7.out rfl)
  clear C t8 k8
  obtain⟨b0,b1,b2,b3,-⟩:=box_cells B8.out
  have C:=zH (T8.out.rd1 (dd':=D2) (fun X hX hR=>by have:=hR.arm hx2.2;rw[HDA.out]at this;exact this))
  go_wp2_with fail
  refine C.out.mono ?_
  rintro z w9 ⟨m1,a1,n1,c1,la1,dn1,rfl,t9,n9⟩
  have hb9:=n9.at_ B8.out
  obtain⟨y0,y1,y2,y3,g0,g1,g2,g3⟩:=box_cells hb9
  have hl9:=lt_of_block hb9
  have hO:=only_set4 w9 p8 (.int .i64 m1) (.slice a1 n1 c1) (.int .i64 la1) (.bool dn1)
  have T10:=zH (t9.put (Z:=fun k=>k=p8) hO (fun k hk _=>⟨hk,by rw[hk];exact HP8.out⟩) (fun k hk=>.inl hk))
  have B10:=zH (heap_set4 hb9 (.int .i64 m1) (.slice a1 n1 c1) (.int .i64 la1) (.bool dn1))
  clear C t9 n9 hb9 hO b0 b1 b2 b3
  go_wp2_with fail
  go_meet
  case rel=>exact⟨rfl,m1,a1,n1,c1,la1,dn1,T10.out,B10.out⟩
 case rest =>
  obtain⟨rfl,m1,a1,n1,c1,la1,dn1,t8,b8⟩:=hcut
  have T8:=zH t8
  have B8:=zH b8
  clear t8 b8 T7 B7 HTB HD2
  obtain⟨⟨D3,es2,ps2,xm⟩,hme⟩:=zN (mendD unpackB D2)
  have hok2:=mendD_evs D2
  rw[hme]at hok2
  have hmo3:=mendD_most unpackB D2
  rw[hme]at hmo3
  have HMO3:Hid (D3.most=1048576):=zH (hmo3.trans HMO2.out)
  have OK2:=zH hok2
  have HME:=zH hme
  obtain⟨ne2,hne⟩:=zN (es2.length)
  obtain⟨np2,hnp⟩:=zN (ps2.length)
  have HNE2:=zH hne
  have HNP2:=zH hnp
  clear hok2 hmo3 hme hne hnp
  have C:=zH (T8.out.does (dp':=D3) (R:=fun X z w'=>∃v q,z=.returned (.tuple #[v,q,.int .i64 xm])∧MendTo X W wc w' b D3 v q es2 ps2) (fun X hY hX=>(Mend_ok hX (.inl den_unpack) HME.out).mono (by
   rintro z w' ⟨v,q,rfl,mt⟩
   exact⟨⟨v,q,rfl,mt⟩,mt.disk.weak (fun k hk=>.inl hk),mt.kept⟩)))
  go_wp2_with fail
  refine C.out.mono ?_
  rintro z w9 ⟨X9,hY9,⟨v9,q9,rfl,mt⟩,t9,k9⟩
  have T9:=zH t9
  have B9:=zH (k9.at_ B8.out (hY9 _ rfl))
  obtain⟨ea3,ec3,rfl,-⟩:=mt.evs.len
  obtain⟨pa3,pc3,rfl,-⟩:=mt.pcs.len
  have E9:Hid (Evs w9 (.slice ea3 es2.length ec3) es2):=zH ⟨mt.evs.src,OK2.out⟩
  have P9:Hid (Pcs w9 (.slice pa3 ps2.length pc3) ps2):=zH ⟨mt.pcs.src,mt.ok⟩
  have hpl:=lt_of_block B8.out
  have FE9:Hid (∀g,(Value.slice ea3 es2.length ec3).ownBlock=some g→¬ g=p8):=zH (fun g hg e=>by have:=mt.e0 g hg;omega)
  have FP9:Hid (∀g,(Value.slice pa3 ps2.length pc3).ownBlock=some g→¬ g=p8):=zH (fun g hg e=>by have:=mt.p0 g hg;omega)
  rw[HNE2.out]at E9 FE9 ⊢
  rw[HNP2.out]at P9 FP9 ⊢
  clear C t9 k9 mt T8 B8 hpl hY9
  obtain⟨b0,b1,b2,b3,-⟩:=box_cells B9.out
  have hbl:=lt_of_block B9.out
  have C:=zH (T9.out.docs (dd':=D3) (E:=fun z v' w'=>∃ev pv,z=.returned (.tuple #[v',ev,pv,.int .i64 xm])∧OwnE w9 w' ev es2∧OwnP w9 w' pv ps2) (fun X hX hR=>(dMend_ok hR hX (by rw[HMO2.out];omega)).mono (by
   rintro z w' ⟨m,a,n,c,la,dn,ev,pv,rfl,r1,r2,r3⟩
   rw[HME.out]at r1 r2 r3 ⊢
   exact⟨_,⟨ev,pv,rfl,r2,r3⟩,r1,r2.2.1⟩)))
  go_wp2_with fail
  refine C.out.mono ?_
  rintro z w10 ⟨v10,⟨ev,pv,rfl,o1,o2⟩,t10,n10⟩
  obtain⟨m2,a2,n2,c2,la2,dn2,rfl⟩:=t10.parts
  have hb10:=n10.at_ B9.out
  obtain⟨y0,y1,y2,y3,g0,g1,g2,g3⟩:=box_cells hb10
  have hl10:=lt_of_block hb10
  have hO:=only_set4 w10 p8 (.int .i64 m2) (.slice a2 n2 c2) (.int .i64 la2) (.bool dn2)
  have T11:=zH (t10.put (Z:=fun k=>k=p8) hO (fun k hk _=>⟨hk,by rw[hk];exact HP8.out⟩) (fun k hk=>.inl hk))
  have B11:=zH (heap_set4 hb10 (.int .i64 m2) (.slice a2 n2 c2) (.int .i64 la2) (.bool dn2))
  have E11:=zH ((E9.out.nw n10).keep hO (fun g hg=>FE9.out g hg))
  have P11:Hid (Pcs _ (.slice pa3 np2 pc3) ps2):=zH ⟨(P9.out.nw n10).src.keep hO (fun g hg=>FP9.out g hg),P9.out.ok⟩
  obtain⟨ea4,ec4,rfl,-⟩:=o1.1.len
  obtain⟨pa4,pc4,rfl,-⟩:=o2.1.len
  have F11:=zH ((o1.evs OK2.out).keep hO (fun g hg e=>by have:=o1.2.2 g hg;have h2:=lt_of_block B9.out;omega))
  have Q11:Hid (Pcs _ (.slice pa4 ps2.length pc4) ps2):=zH ⟨o2.pcs.src.keep hO (fun g hg e=>by have:=o2.2.2.2 g hg;have h2:=lt_of_block B9.out;omega),o2.2.1⟩
  rw[HNE2.out]at F11 ⊢
  rw[HNP2.out]at Q11 ⊢
  clear C t10 n10 hb10 hO o1 o2 b0 b1 b2 b3 T9 B9 E9 P9 FE9 FP9
  go_upto_region 13 with fail
  generalize ((((w10.setCell ⟨p8,0,none⟩ (.int .i64 m2)).setCell ⟨p8,1,none⟩ (.slice a2 n2 c2)).setCell ⟨p8,2,none⟩ (.int .i64 la2)).setCell ⟨p8,3,none⟩ (.bool dn2))=w11 at T11 B11 E11 P11 F11 Q11 ⊢
  clear y0 y1 y2 y3 g0 g1 g2 g3 hbl hl10
  have hxx:(xm !=xm)=false:=by simp
  have C:=zH (SameEvents_ok E11.out F11.out)
  go_wp2_with fail
  refine C.out.mono ?_
  rintro z w12 ⟨rfl,n12⟩
  have T12:=zH (T11.out.nw n12)
  have B12:=zH (n12.at_ B11.out)
  have P12:=zH (P11.out.nw n12)
  have Q12:=zH (Q11.out.nw n12)
  clear C n12 T11 B11 P11 Q11 E11 F11
  have C:=zH (SamePieces_ok P12.out Q12.out)
  go_wp2_with fail
  refine C.out.mono ?_
  rintro z w13 ⟨rfl,n13⟩
  have T13:=zH (T12.out.nw n13)
  have B13:=zH (n13.at_ B12.out)
  clear C n13 T12 B12 P12 Q12
  obtain⟨b0,b1,b2,b3,-⟩:=box_cells B13.out
  have hbl:=lt_of_block B13.out
  have C:=zH T13.out.same
  go_wp2_with fail
  refine C.out.mono ?_
  rintro z w14 ⟨rfl,n14⟩
  have T14:=zH (T13.out.nw n14)
  have B14:=zH (n14.at_ B13.out)
  clear C n14 T13 B13 b0 b1 b2 b3 hbl hxx OK2 HNE2 HNP2 HME HMO2
  obtain⟨R,hR⟩:=zN (openD unpackB D3 x1)
  have hok3:=openD_evs D3 x1
  have hno3:=openD_none (U:=unpackB) (d:=D3) (size:=x1)
  have hln3:=openD_len (U:=unpackB) (d:=D3) (size:=x1)
  have CD:=zH (fun (X:Nat→Prop) (w:World) (v:Value) (hX:∀k,w.heap.size≤k→X k) (h:RD X w v D3)=>dOpen_ok h hX (by rw[HMO3.out];omega) x1)
  have CO:=zH (fun (X:Nat→Prop) (w:World) (h:HasX X W w b D3)=>Open_ok h HT.out (.inl den_unpack) x1)
  rw[hR]at hok3 hno3 hln3 CD CO
  have OK3:=zH hok3
  clear hok3 hR HMO3
  obtain⟨ne3,hne⟩:=zN (R.es.length)
  have HNE3:=zH hne
  clear hne
  have C:=zH (T14.out.does (dp':=R.d) (R:=fun X z w'=>Opened X W w14 b R z w') (fun X hY hX=>(CO.out X w14 hX).mono (by
   rintro z w' ho
   refine⟨ho,?_,ho.1⟩
   rcases ho.2 with ⟨-,p,v,-,h1,-⟩|⟨-,-,h1⟩
   ·exact h1.has.weak (fun k hk=>.inl hk)
   ·exact h1)))
  go_wp2_with fail
  refine C.out.mono ?_
  rintro z w15 ⟨X15,hY15,⟨k15,hop⟩,t15,-⟩
  have T15:=zH t15
  have B15:=zH (k15.at_ B14.out (hY15 _ rfl))
  have HPL:Hid (p8<w14.heap.size):=zH (lt_of_block B14.out)
  clear C CO t15 k15 T14 B14
  rcases hop with ⟨he,p,vo,rfl,hl,hv,hfr⟩|⟨he,rfl,hd⟩
  case inr =>
   obtain⟨xo,hxo⟩:=zN (R.e)
   have hes:=hno3 he
   have HES:=zH hes
   have C:=zH (T15.out.docsN (dd':=R.d) (E:=fun z v' w'=>∃(pa:Option Addr) (pc:Nat) (ev:Value),z=.returned (.tuple #[v',.agg #[.int .i64 (noLg).size,.slice pa (noLg).l.length pc,.int .i64 (noLg).n,.int .i64 (noLg).acked,.int .i64 (noLg).bytes,.bool (noLg).over],ev,.int .i64 R.e])∧Pcs w' (.slice pa (noLg).l.length pc) (noLg).l∧OwnE w15 w' ev R.es∧∀g,(Value.slice pa (noLg).l.length pc).ownBlock=some g→¬ g=p8) (fun X hX hN hR=>(CD.out X w15 _ hX hR).mono (by
    rintro z w' ⟨m,a,n,c,la,dn,pa,pc,ev,rfl,r1,r2,r3,-⟩
    rw[if_neg he]at r2 ⊢
    exact⟨_,⟨pa,pc,ev,rfl,r2.at_.1,r3,fun g hg=>hN g (r2.at_.2 g hg)⟩,r1,r3.2.1⟩)))
   rw[hxo]at C he ⊢
   have HE:=zH he
   have hn0:ne3=0:=by rw[←HNE3.out,hes];rfl
   subst hn0
   clear he hes hno3 hln3 hd CD hxo
   obtain⟨b0,b1,b2,b3,-⟩:=box_cells B15.out
   have hbl:=lt_of_block B15.out
   go_wp2_with fail
   refine C.out.mono ?_
   rintro z w16 ⟨v16,⟨pa5,pc5,ev5,rfl,q16,o16,b16⟩,t16,n16⟩
   obtain⟨m5,a5,n5,c5,la5,dn5,rfl⟩:=t16.parts
   obtain⟨ea5,ec5,rfl,-⟩:=o16.1.len
   rw[HNE3.out]
   have hb16:=n16.at_ B15.out
   obtain⟨y0,y1,y2,y3,g0,g1,g2,g3⟩:=box_cells hb16
   have hl16:=lt_of_block hb16
   clear C b0 b1 b2 b3
   unfold noLg
   have hO:=only_set4 w16 p8 (.int .i64 m5) (.slice a5 n5 c5) (.int .i64 la5) (.bool dn5)
   have T17:=zH (t16.put (Z:=fun k=>k=p8) hO (fun k hk _=>⟨hk,by rw[hk];exact HP8.out⟩) (fun k hk=>.inl hk))
   have B17:=zH (heap_set4 hb16 (.int .i64 m5) (.slice a5 n5 c5) (.int .i64 la5) (.bool dn5))
   have F17:=zH ((o16.evs OK3.out).keep hO (fun g hg e=>by have:=o16.2.2 g hg;have h2:=lt_of_block B15.out;omega))
   rw[HNE3.out]at F17
   go_upto_region 17 with fail
   generalize ((((w16.setCell ⟨p8,0,none⟩ (.int .i64 m5)).setCell ⟨p8,1,none⟩ (.slice a5 n5 c5)).setCell ⟨p8,2,none⟩ (.int .i64 la5)).setCell ⟨p8,3,none⟩ (.bool dn5))=w17 at T17 B17 F17 ⊢
   have NA:=(Nw.refl w17).alloc (.cells #[.int .i64 0,.slice pa5 0 pc5,.int .i64 0,.int .i64 0,.int .i64 0,.bool false] 49)
   have T18:=zH (T17.out.nw NA)
   have B18:=zH (NA.at_ B17.out)
   have F18:=zH (F17.out.nw NA)
   have X18:Hid (Evs (w17.alloc (.cells #[.int .i64 0,.slice pa5 0 pc5,.int .i64 0,.int .i64 0,.int .i64 0,.bool false] 49)) (.slice none 0 0) R.es):=zH (by rw[HES.out];exact⟨(Vec.nil (k:=5)).src,fun _ h=>by cases h⟩)
   clear NA T17 B17 F17 y0 y1 y2 y3 g0 g1 g2 g3 hbl hl16 t16 n16 hb16 hO o16 q16 T15 B15
   generalize w17.alloc (.cells #[.int .i64 0,.slice pa5 0 pc5,.int .i64 0,.int .i64 0,.int .i64 0,.bool false] 49)=w18 at T18 B18 F18 X18 ⊢
   have hx0:(xo !=0)=true:=by simpa using HE.out
   have hxx:(xo !=xo)=false:=by simp
   have C:=zH (SameEvents_ok X18.out F18.out)
   go_wp2_with fail
   refine C.out.mono ?_
   rintro z w19 ⟨rfl,n19⟩
   have T19:=zH (T18.out.nw n19)
   have B19:=zH (n19.at_ B18.out)
   clear C n19 T18 B18 X18 F18
   obtain⟨b0,b1,b2,b3,-⟩:=box_cells B19.out
   have hbl2:=lt_of_block B19.out
   have C:=zH T19.out.same
   go_wp2_with fail
   refine C.out.mono ?_
   rintro z w20 ⟨rfl,n20⟩
   have T20:=zH (T19.out.nw n20)
   clear C n20 T19 B19 b0 b1 b2 b3 hbl2 hxx
   have AW:=zH (fun W' (hW:Nw w20 W')=>awake6_ok W' (HT.out.nw (T20.out.base.trans hW)))
   have AWQ:Hid (∀q:Regrown,Calls Tryz.prog 6 #[] (grow (redrawn w20 q.d) q.os) fun e w''=>e=.returned (.bool true)∧∃p':Regrown,w''=grow (redrawn w20 p'.d) p'.os):=zH fun q=>quiet_nw fun w2 hw2=>AW.out w2 hw2
   go_upto_region 19 with fail
   refine wp_region_quiet_below (by kernel_rfl) (by kernel_rfl) ?_
   repeat (first|go_big_quiet_step (with_reducible exact AWQ.out _)|quiet_step (with_reducible exact AWQ.out _))
   refine wpQuiet_nil ?_
   intro w21 hw21
   have N21:=zH (T20.out.base.trans (Nw.of_regrown hw21))
   go_wp2
   go_ret
   exact⟨rfl,N21.out⟩
  case inl =>
   have hlen:=hln3 he
   have HLEN:=zH hlen
   have C:=zH (T15.out.docsN (dd':=R.d) (E:=fun z v' w'=>∃(pa:Option Addr) (pc:Nat) (ev:Value),z=.returned (.tuple #[v',.agg #[.int .i64 (R.L).size,.slice pa (R.L).l.length pc,.int .i64 (R.L).n,.int .i64 (R.L).acked,.int .i64 (R.L).bytes,.bool (R.L).over],ev,.int .i64 R.e])∧Pcs w' (.slice pa (R.L).l.length pc) (R.L).l∧OwnE w15 w' ev R.es∧∀g,(Value.slice pa (R.L).l.length pc).ownBlock=some g→¬ g=p8) (fun X hX hN hR=>(CD.out X w15 _ hX hR).mono (by
    rintro z w' ⟨m,a,n,c,la,dn,pa,pc,ev,rfl,r1,r2,r3,-⟩
    rw[if_pos he]at r2 ⊢
    exact⟨_,⟨pa,pc,ev,rfl,r2.at_.1,r3,fun g hg=>hN g (r2.at_.2 g hg)⟩,r1,r3.2.1⟩)))
   obtain⟨xo,hxo⟩:=zN (R.e)
   rw[hxo]at C he
   subst he
   obtain⟨eao,eco,rfl,-⟩:=hv.len
   have HV15:Hid (Evs w15 (.slice eao R.es.length eco) R.es):=zH ⟨hv.src,OK3.out⟩
   have HFR:Hid (∀g,(Value.slice eao R.es.length eco).ownBlock=some g→¬ g=p8):=zH (fun g hg e=>by have:=hfr g hg;have h2:=HPL.out;omega)
   have HL15:Hid (HasL (fun k=>k=p8) W w15 p b R.d R.L):=zH (hl.wider (Nw.refl _) (fun k hk=>.inl (.inl (hY15 k hk))))
   rw[HNE3.out]at HV15 HFR ⊢
   clear hlen hno3 hln3 hl hv hfr CD hxo
   obtain⟨b0,b1,b2,b3,-⟩:=box_cells B15.out
   have hbl:=lt_of_block B15.out
   go_wp2_with fail
   refine C.out.mono ?_
   rintro z w16 ⟨v16,⟨pa5,pc5,ev5,rfl,q16,o16,b16⟩,t16,n16⟩
   obtain⟨m5,a5,n5,c5,la5,dn5,rfl⟩:=t16.parts
   obtain⟨ea5,ec5,rfl,-⟩:=o16.1.len
   rw[HNE3.out]
   have hb16:=n16.at_ B15.out
   obtain⟨y0,y1,y2,y3,g0,g1,g2,g3⟩:=box_cells hb16
   have hl16:=lt_of_block hb16
   clear C b0 b1 b2 b3
   have hO:=only_set4 w16 p8 (.int .i64 m5) (.slice a5 n5 c5) (.int .i64 la5) (.bool dn5)
   have T17:=zH (t16.put (Z:=fun k=>k=p8) hO (fun k hk _=>⟨hk,by rw[hk];exact HP8.out⟩) (fun k hk=>.inl hk))
   have B17:=zH (heap_set4 hb16 (.int .i64 m5) (.slice a5 n5 c5) (.int .i64 la5) (.bool dn5))
   have F17:=zH ((o16.evs OK3.out).keep hO (fun g hg e=>by have:=o16.2.2 g hg;have h2:=lt_of_block B15.out;omega))
   have H17:=zH ((HL15.out.nw n16).grow (Y:=fun k=>k=p8) hO (fun k hk _=>⟨hk,by rw[hk];exact HP8.out⟩) (fun k hk=>.inl hk))
   have X17:=zH ((HV15.out.nw n16).keep hO (fun g hg=>HFR.out g hg))
   have Q17:Hid (Pcs _ (.slice pa5 R.L.l.length pc5) R.L.l):=zH ⟨q16.src.keep hO (fun g hg e=>b16 g hg e),q16.ok⟩
   rw[HNE3.out]at F17
   go_upto_region 17 with fail
   have hsz:((((w16.setCell ⟨p8,0,none⟩ (.int .i64 m5)).setCell ⟨p8,1,none⟩ (.slice a5 n5 c5)).setCell ⟨p8,2,none⟩ (.int .i64 la5)).setCell ⟨p8,3,none⟩ (.bool dn5)).heap.size=w16.heap.size:=by simp
   generalize ((((w16.setCell ⟨p8,0,none⟩ (.int .i64 m5)).setCell ⟨p8,1,none⟩ (.slice a5 n5 c5)).setCell ⟨p8,2,none⟩ (.int .i64 la5)).setCell ⟨p8,3,none⟩ (.bool dn5))=w17 at T17 B17 F17 H17 X17 Q17 hsz ⊢
   have NA:=(Nw.refl w17).alloc (.cells #[.int .i64 R.L.size,.slice pa5 R.L.l.length pc5,.int .i64 R.L.n,.int .i64 R.L.acked,.int .i64 R.L.bytes,.bool R.L.over] 49)
   have T18:=zH (T17.out.nw NA)
   have B18:=zH (NA.at_ B17.out)
   have F18:=zH (F17.out.nw NA)
   have X18:=zH (X17.out.nw NA)
   have H18:=zH (H17.out.nw NA)
   have Q18:=zH (Q17.out.nw NA)
   have L18:Hid ((w17.alloc (.cells #[.int .i64 R.L.size,.slice pa5 R.L.l.length pc5,.int .i64 R.L.n,.int .i64 R.L.acked,.int .i64 R.L.bytes,.bool R.L.over] 49)).heap[w17.heap.size]? = some (logB R.L pa5 pc5)):=zH (heap_alloc_new w17 _)
   clear NA T17 B17 F17 X17 H17 Q17 y0 y1 y2 y3 g0 g1 g2 g3 hbl hl16 t16 n16 hb16 hO o16 q16 b16 T15 B15 HL15 HV15
   generalize w17.alloc (.cells #[.int .i64 R.L.size,.slice pa5 R.L.l.length pc5,.int .i64 R.L.n,.int .i64 R.L.acked,.int .i64 R.L.bytes,.bool R.L.over] 49)=w18 at T18 B18 F18 X18 H18 Q18 L18 ⊢
   obtain⟨q,hq⟩:=zN (w16.heap.size)
   rw[hsz,hq]at L18
   (try rw[hq])
   clear hsz
   have hxx:((0:Int)!=0)=false:=rfl
   have C:=zH (SameEvents_ok X18.out F18.out)
   go_wp2_with fail
   refine C.out.mono ?_
   rintro z w19 ⟨rfl,n19⟩
   have T19:=zH (T18.out.nw n19)
   have B19:=zH (n19.at_ B18.out)
   have L19:=zH (n19.at_ L18.out)
   have H19:=zH (H18.out.nw n19)
   have Q19:=zH (Q18.out.nw n19)
   clear C n19 T18 B18 X18 F18 L18 H18 Q18
   obtain⟨b0,b1,b2,b3,-⟩:=box_cells B19.out
   have hbl2:=lt_of_block B19.out
   have C:=zH T19.out.same
   go_wp2_with fail
   refine C.out.mono ?_
   rintro z w20 ⟨rfl,n20⟩
   have T20:=zH (T19.out.nw n20)
   have L20:=zH (n20.at_ L19.out)
   have H20:=zH (H19.out.nw n20)
   have Q20:=zH (Q19.out.nw n20)
   clear C n20 T19 B19 b0 b1 b2 b3 hbl2 hxx
   have AW:=zH (fun W' (hW:Nw w20 W')=>awake6_ok W' (HT.out.nw (T20.out.base.trans hW)))
   obtain⟨⟨c0,c1,c2,c3,c4,c5⟩,-⟩:=lb_cells L20.out
   have C1:=zH c1
   have C2:=zH c2
   have C3:=zH c3
   have LQ:=zH (lt_of_block L20.out)
   have LN:=zH (fun W' (hW:Nw w20 W')=>(H20.out.nw hW).len (n:=R.L.n) rfl)
   have LA:=zH (fun W' (hW:Nw w20 W')=>(H20.out.nw hW).ack (n:=R.L.acked) rfl)
   have LP:Hid (∀W',Nw w20 W'→Calls Tryz.prog 21 #[.pointer (some ⟨p,0,none⟩)] W' fun e w'=>∃a c,e=.returned (.slice a R.L.l.length c)∧Pcs w' (.slice a R.L.l.length c) R.L.l∧Nw W' w'):=zH (fun W' hW=>by
    obtain⟨g,o,cap,hg⟩:=H20.out.nw hW
    refine (Pieces_ok hg.mem (by have:=HLEN.out;omega)).mono ?_
    rintro e w' ⟨v,rfl,q1,q2,-⟩
    obtain⟨a,c,rfl,-⟩:=q1.len
    exact⟨a,c,rfl,q1.pcs Q20.out.ok,q2⟩)
   have SQ:=zH (fun W' (hW:Nw w20 W') a c (hq:Pcs W' (.slice a R.L.l.length c) R.L.l)=>SamePieces_ok hq (Q20.out.nw hW))
   clear c0 c1 c2 c3 c4 c5 L20 H20 Q20
   go_upto_region 19 with fail
   refine rtl1 AW LN LA LP SQ LQ C1 C2 C3 ?_
   intro s6 s140 s141 s142 s143 s144 s145 s146 s147 s148 s149 s150 s151 s152 s153 s154 s155 s156 s157 s158 s159 s160 s161 s162 s163 s164 s165 w21 n21 hs
   subst hs
   have N21:=zH (T20.out.base.trans n21)
   clear n21
   go_wp2
   go_ret
   exact⟨rfl,N21.out⟩
end RecoverTells
end Go.Proofs.YtkbenkldfehhlaaGreatDoor
