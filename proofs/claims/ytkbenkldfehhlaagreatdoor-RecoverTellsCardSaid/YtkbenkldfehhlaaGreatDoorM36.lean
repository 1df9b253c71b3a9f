/-
  Texts merged by a program of this claim's: DocR.
-/
import Derived.Test.YtkbenkldfehhlaaGreatDoorM35
import Derived.Test.YtkbenkldfehhlaaGreatDoorM22
namespace Go.Proofs.YtkbenkldfehhlaaGreatDoor
open Go Go.RowKit Go.Sort
set_option maxRecDepth 100000
set_option maxHeartbeats 3200000
section
variable {X Y:Nat→Prop}{d0 d':Dsk}{v lv:Value}{w wk w':World}{L0 L':Lg}
theorem dCreate_ok (h:RD X w v d0) (hX:∀k,w.heap.size≤k→X k) (size:Int) :
  Calls Tryz.prog 26 #[v,.int .i64 size] w (RDM X w (createD d0 size).1 (if (createD d0 size).2=0 then newLg size else noLg) (createD d0 size).2):=by
 obtain⟨R,hR⟩:=zN (createD d0 size)
 have HR:=zH hR
 rw[hR]
 clear hR
 obtain⟨LR,hLR⟩:=zN ((if R.2=0 then newLg size else noLg))
 have HLR:=zH hLR
 rw[hLR]
 clear hLR
 obtain⟨m0,a0,n0,c0,la0,dn0,rfl⟩:=h.parts
 have S0:=zH (St3.new h)
 have HX:=zH hX
 clear h hX
 obtain⟨w0,hw0⟩:=zN (((w.alloc (DB (.int .i64 m0) (.slice a0 n0 c0) (.int .i64 la0) (.bool dn0))).alloc (DB (.int .i64 0) (.slice none 0 0) (.int .i64 0) (.bool false))).alloc (LB (.int .i64 0) (.slice none 0 0) (.int .i64 0) (.int .i64 0) (.int .i64 0) (.bool false)))
 rw[hw0]at S0
 unfold LB DB at hw0
 go_enter Tryz.func26,Tryz.ntmps26
 go_upto_region 1 with fail
 clear hw0
 generalize w.heap.size+3=K at S0
 generalize w.heap.size+1+1=rl at S0 ⊢
 generalize w.heap.size+1=rd at S0 ⊢
 generalize w.heap.size=pd at S0 ⊢
 by_cases hs1:size<64
 case pos =>
  have y1:decide (size<64)=true:=by simpa using hs1
  have HS1:=zH hs1
  clear hs1
  have HE:Hid (R=(d0,2)):=zH (by rw[←HR.out];unfold createD;rw[if_pos (.inl HS1.out)])
  have HIF:Hid (LR=noLg):=zH (by rw[←HLR.out,HE.out];exact if_neg (by simp))
  obtain⟨⟨b0,b1,b2,b3⟩,⟨u0,u1,u2,u3,r0,r1,r2,r3,f0,f1,f2,f3⟩,⟨v0,v1,v2,v3,v4,v5,⟨s0,s1,s2,s3,s4,s5⟩,g0,g1,g2,g3,g4,g5⟩,e1,e2,e3⟩:=S0.out.told
  go_wp2
  obtain⟨w9,hw9,D9,V9,N9,BD9,BL9⟩:=S0.out.fin0 HX.out
  rw[hw9]
  obtain⟨e0,e1,e2,e3,-⟩:=box_cells BD9
  obtain⟨⟨j0,j1,j2,j3,j4,j5⟩,-⟩:=lb_cells BL9
  refine bodyPost_ret (v:=.tuple #[.agg #[.int .i64 m0,.slice a0 n0 c0,.int .i64 la0,.bool dn0],.agg #[.int .i64 0,.slice none 0 0,.int .i64 0,.int .i64 0,.int .i64 0,.bool false],.int .i64 2]) (by simp[results,Tryz.results26,go_sem,e0,e1,e2,e3,j0,j1,j2,j3,j4,j5]) rfl ?_
  rw[HE.out]
  rw[HIF.out]
  exact⟨m0,a0,n0,c0,la0,dn0,none,0,rfl,D9,V9,N9,.inr rfl⟩
 have y1:decide (size<64)=false:=by simpa using hs1
 by_cases hs2:16777216<size
 case pos =>
  have y2:decide ((16777216:Int)<size)=true:=by simpa using hs2
  have HS1:=zH hs2
  clear hs1 hs2
  have HE:Hid (R=(d0,2)):=zH (by rw[←HR.out];unfold createD;rw[if_pos (.inr HS1.out)])
  have HIF:Hid (LR=noLg):=zH (by rw[←HLR.out,HE.out];exact if_neg (by simp))
  obtain⟨⟨b0,b1,b2,b3⟩,⟨u0,u1,u2,u3,r0,r1,r2,r3,f0,f1,f2,f3⟩,⟨v0,v1,v2,v3,v4,v5,⟨s0,s1,s2,s3,s4,s5⟩,g0,g1,g2,g3,g4,g5⟩,e1,e2,e3⟩:=S0.out.told
  go_wp2
  obtain⟨w9,hw9,D9,V9,N9,BD9,BL9⟩:=S0.out.fin0 HX.out
  rw[hw9]
  obtain⟨e0,e1,e2,e3,-⟩:=box_cells BD9
  obtain⟨⟨j0,j1,j2,j3,j4,j5⟩,-⟩:=lb_cells BL9
  refine bodyPost_ret (v:=.tuple #[.agg #[.int .i64 m0,.slice a0 n0 c0,.int .i64 la0,.bool dn0],.agg #[.int .i64 0,.slice none 0 0,.int .i64 0,.int .i64 0,.int .i64 0,.bool false],.int .i64 2]) (by simp[results,Tryz.results26,go_sem,e0,e1,e2,e3,j0,j1,j2,j3,j4,j5]) rfl ?_
  rw[HE.out]
  rw[HIF.out]
  exact⟨m0,a0,n0,c0,la0,dn0,none,0,rfl,D9,V9,N9,.inr rfl⟩
 have y2:decide ((16777216:Int)<size)=false:=by simpa using hs2
 have HSZ:Hid (¬ (size<64∨16777216<size)):=zH (fun h=>h.elim hs1 hs2)
 clear hs1 hs2
 obtain⟨rl_,xr,hrd⟩:∃l x,d0.read manifestS=(l,x):=⟨_,_,rfl⟩
 have HRD:=zH hrd
 have RDD:=zH (S0.out.rdk.read hrd)
 clear hrd
 obtain⟨b0,b1,b2,b3,k0,k1,k2,k3⟩:=box_cells S0.out.bd
 go_upto_region 3 with fail
 clear y1 y2
 go_wp2_with fail
 refine RDD.out.mono ?_
 rintro e w1 ⟨ra,rc,rfl,rb,nn⟩
 have S1:=zH (S0.out.on nn)
 clear rb nn RDD b0 b1 b2 b3 k0 k1 k2 k3
 by_cases hx:xr=0
 case pos =>
  subst hx
  go_upto_region 5 with fail
  have HE:Hid (R=(d0,14)):=zH (by rw[←HR.out];unfold createD;rw[if_neg HSZ.out];simp only[HRD.out];rw[if_pos trivial])
  have HIF:Hid (LR=noLg):=zH (by rw[←HLR.out,HE.out];exact if_neg (by simp))
  obtain⟨⟨b0,b1,b2,b3⟩,⟨u0,u1,u2,u3,r0,r1,r2,r3,f0,f1,f2,f3⟩,⟨v0,v1,v2,v3,v4,v5,⟨s0,s1,s2,s3,s4,s5⟩,g0,g1,g2,g3,g4,g5⟩,e1,e2,e3⟩:=S1.out.told
  go_wp2
  obtain⟨w9,hw9,D9,V9,N9,BD9,BL9⟩:=S1.out.fin0 HX.out
  rw[hw9]
  obtain⟨e0,e1,e2,e3,-⟩:=box_cells BD9
  obtain⟨⟨j0,j1,j2,j3,j4,j5⟩,-⟩:=lb_cells BL9
  refine bodyPost_ret (v:=.tuple #[.agg #[.int .i64 m0,.slice a0 n0 c0,.int .i64 la0,.bool dn0],.agg #[.int .i64 0,.slice none 0 0,.int .i64 0,.int .i64 0,.int .i64 0,.bool false],.int .i64 14]) (by simp[results,Tryz.results26,go_sem,e0,e1,e2,e3,j0,j1,j2,j3,j4,j5]) rfl ?_
  rw[HE.out]
  rw[HIF.out]
  exact⟨m0,a0,n0,c0,la0,dn0,none,0,rfl,D9,V9,N9,.inr rfl⟩
 have HX0:=zH hx
 have y1:(xr==0)=false:=by simpa using hx
 clear hx
 by_cases hx:xr=13
 case neg =>
  have HX1:=zH hx
  have y2:(xr !=13)=true:=by simpa using hx
  clear hx
  go_upto_region 7 with fail
  have HE:Hid (R=(d0,xr)):=zH (by rw[←HR.out];unfold createD;rw[if_neg HSZ.out];simp only[HRD.out];rw[if_neg HX0.out,if_pos HX1.out])
  have HIF:Hid (LR=noLg):=zH (by rw[←HLR.out,HE.out];exact if_neg (HX0.out))
  obtain⟨⟨b0,b1,b2,b3⟩,⟨u0,u1,u2,u3,r0,r1,r2,r3,f0,f1,f2,f3⟩,⟨v0,v1,v2,v3,v4,v5,⟨s0,s1,s2,s3,s4,s5⟩,g0,g1,g2,g3,g4,g5⟩,e1,e2,e3⟩:=S1.out.told
  go_wp2
  obtain⟨w9,hw9,D9,V9,N9,BD9,BL9⟩:=S1.out.fin0 HX.out
  rw[hw9]
  obtain⟨e0,e1,e2,e3,-⟩:=box_cells BD9
  obtain⟨⟨j0,j1,j2,j3,j4,j5⟩,-⟩:=lb_cells BL9
  refine bodyPost_ret (v:=.tuple #[.agg #[.int .i64 m0,.slice a0 n0 c0,.int .i64 la0,.bool dn0],.agg #[.int .i64 0,.slice none 0 0,.int .i64 0,.int .i64 0,.int .i64 0,.bool false],.int .i64 xr]) (by simp[results,Tryz.results26,go_sem,e0,e1,e2,e3,j0,j1,j2,j3,j4,j5]) rfl ?_
  rw[HE.out]
  rw[HIF.out]
  exact⟨m0,a0,n0,c0,la0,dn0,none,0,rfl,D9,V9,N9,.inr rfl⟩
 subst hx
 clear y1
 obtain⟨d1,x1,hr1⟩:∃d1 x1,d0.begun 0=(d1,x1):=⟨_,_,rfl⟩
 have HR1:=zH hr1
 have R1:=zH (dBegin_ok (n:=0) S1.out.rdk S1.out.fresh (by omega) hr1)
 obtain⟨hb,hhb⟩:=zN ((headB 0).length)
 rw[hhb]at R1
 have HHB:=zH hhb
 clear hhb hr1
 obtain⟨b0,b1,b2,b3,k0,k1,k2,k3⟩:=box_cells S1.out.bd
 go_upto_region 8 with fail
 go_wp2_with fail
 refine R1.out.mono ?_
 rintro e y1 ⟨m1,a1,n1,c1,la1,dn1,rfl,dd,nn⟩
 obtain⟨w2,hw2,s2,o2⟩:=S1.out.step dd nn
 have S2:=zH s2
 clear R1 s2 o2 b0 b1 b2 b3 k0 k1 k2 k3
 have TY:=zH (S1.out.on nn)
 clear dd nn
 obtain⟨b0,b1,b2,b3,k0,k1,k2,k3⟩:=box_cells TY.out.bd
 go_upto_if 40 with fail
 (try rw[hw2])
 clear hw2 b0 b1 b2 b3 k0 k1 k2 k3 TY
 by_cases hx1:x1=0
 case neg =>
  have y2:(x1 !=0)=true:=by simpa using hx1
  have HX1:=zH hx1
  clear hx1
  go_upto_region 10 with fail
  have HE:Hid (R=(d1,x1)):=zH (by rw[←HR.out];unfold createD;rw[if_neg HSZ.out];simp only[HRD.out,HR1.out];rw[if_neg (by decide),if_neg (by decide),if_pos HX1.out])
  have HIF:Hid (LR=noLg):=zH (by rw[←HLR.out,HE.out];exact if_neg (HX1.out))
  obtain⟨⟨b0,b1,b2,b3⟩,⟨u0,u1,u2,u3,r0,r1,r2,r3,f0,f1,f2,f3⟩,⟨v0,v1,v2,v3,v4,v5,⟨s0,s1,s2,s3,s4,s5⟩,g0,g1,g2,g3,g4,g5⟩,e1,e2,e3⟩:=S2.out.told
  go_wp2
  obtain⟨w9,hw9,D9,V9,N9,BD9,BL9⟩:=S2.out.fin0 HX.out
  rw[hw9]
  obtain⟨e0,e1,e2,e3,-⟩:=box_cells BD9
  obtain⟨⟨j0,j1,j2,j3,j4,j5⟩,-⟩:=lb_cells BL9
  refine bodyPost_ret (v:=.tuple #[.agg #[.int .i64 m1,.slice a1 n1 c1,.int .i64 la1,.bool dn1],.agg #[.int .i64 0,.slice none 0 0,.int .i64 0,.int .i64 0,.int .i64 0,.bool false],.int .i64 x1]) (by simp[results,Tryz.results26,go_sem,e0,e1,e2,e3,j0,j1,j2,j3,j4,j5]) rfl ?_
  rw[HE.out]
  rw[HIF.out]
  exact⟨m1,a1,n1,c1,la1,dn1,none,0,rfl,D9,V9,N9,.inr rfl⟩
 subst hx1
 have hna:=(Nw.refl w2).alloc (.cells #[.string ⟨#[115,48]⟩,.int .i64 0,.int .i64 0,.bool false] 98 (0,0))
 have S3:=zH (S2.out.on hna)
 have P3:Hid (Pcs (w2.alloc (.cells #[.string ⟨#[115,48]⟩,.int .i64 0,.int .i64 0,.bool false] 98 (0,0))) (.slice (some ⟨w2.heap.size,0,none⟩) 1 1) [⟨segName 0,0,0,false⟩]):=zH ⟨by
  have h0:([⟨segName 0,0,0,false⟩]:List Pc).flatMap pcV=[.string ⟨#[115,48]⟩,.int .i64 0,.int .i64 0,.bool false]:=by simp[pcV,seg0_eq]
  rw[h0]
  exact src_lit w2 98 (0,0) 4 1 1 [.string ⟨#[115,48]⟩,.int .i64 0,.int .i64 0,.bool false] rfl (by omega) (by decide),fun q hq=>by rw[List.mem_singleton]at hq;subst hq;exact seg0_ok⟩
 have HW2:=zH S2.out.kk
 clear hna
 go_upto_region 12 with fail
 (try rw[show (Obj.cells #[.string ⟨#[115,48]⟩,.int .i64 0,.int .i64 0,.bool false] 98)=.cells #[.string ⟨#[115,48]⟩,.int .i64 0,.int .i64 0,.bool false] 98 (0,0) from rfl])
 generalize w2.alloc (.cells #[.string ⟨#[115,48]⟩,.int .i64 0,.int .i64 0,.bool false] 98 (0,0))=w3 at S3 P3 ⊢
 generalize w2.heap.size=q2 at P3 HW2 ⊢
 obtain⟨d2,x2,hr2⟩:∃d2 x2,d1.install [⟨segName 0,0,0,false⟩]=(d2,x2):=⟨_,_,rfl⟩
 have HR2:Hid (d1.install (newLg size).l=(d2,x2)):=zH hr2
 have R2:=zH (dInstall_ok S3.out.rdk S3.out.fresh P3.out hr2)
 clear hr2
 obtain⟨b0,b1,b2,b3,k0,k1,k2,k3⟩:=box_cells S3.out.bd
 go_wp2_with fail
 refine R2.out.mono ?_
 rintro e y2 ⟨m2,a2,n2,c2,la2,dn2,rfl,dd,nn⟩
 obtain⟨w4,hw4,s4,o4⟩:=S3.out.step dd nn
 have S4:=zH s4
 have P4:Hid (Pcs w4 (.slice (some ⟨q2,0,none⟩) 1 1) [⟨segName 0,0,0,false⟩]):=zH ⟨SrcV.kept (X:=fun k=>¬ k=pd) (P3.out.nw nn).src ⟨o4.size,fun k hk hl=>o4.block k hl hk⟩ (fun _ g hg e=>by
  have h1:q2=g:=by simpa [Value.ownBlock] using hg
  have:=HW2.out
  have:=S3.out.hi
  omega),P3.out.ok⟩
 clear R2 s4 o4 b0 b1 b2 b3 k0 k1 k2 k3
 have TY:=zH (S3.out.on nn)
 clear dd nn
 obtain⟨b0,b1,b2,b3,k0,k1,k2,k3⟩:=box_cells TY.out.bd
 go_upto_if 53 with fail
 (try rw[hw4])
 clear hw4 b0 b1 b2 b3 k0 k1 k2 k3 TY
 by_cases hx2:x2=0
 case neg =>
  have y2:(x2 !=0)=true:=by simpa using hx2
  have HX2:=zH hx2
  clear hx2
  go_upto_region 14 with fail
  have HE:Hid (R=(d2,x2)):=zH (by rw[←HR.out];unfold createD;rw[if_neg HSZ.out];simp only[HRD.out,HR1.out];rw[if_neg (by decide),if_neg (by decide),if_neg (by decide)];exact HR2.out)
  have HIF:Hid (LR=noLg):=zH (by rw[←HLR.out,HE.out];exact if_neg (HX2.out))
  obtain⟨⟨b0,b1,b2,b3⟩,⟨u0,u1,u2,u3,r0,r1,r2,r3,f0,f1,f2,f3⟩,⟨v0,v1,v2,v3,v4,v5,⟨s0,s1,s2,s3,s4,s5⟩,g0,g1,g2,g3,g4,g5⟩,e1,e2,e3⟩:=S4.out.told
  go_wp2
  obtain⟨w9,hw9,D9,V9,N9,BD9,BL9⟩:=S4.out.fin0 HX.out
  rw[hw9]
  obtain⟨e0,e1,e2,e3,-⟩:=box_cells BD9
  obtain⟨⟨j0,j1,j2,j3,j4,j5⟩,-⟩:=lb_cells BL9
  refine bodyPost_ret (v:=.tuple #[.agg #[.int .i64 m2,.slice a2 n2 c2,.int .i64 la2,.bool dn2],.agg #[.int .i64 0,.slice none 0 0,.int .i64 0,.int .i64 0,.int .i64 0,.bool false],.int .i64 x2]) (by simp[results,Tryz.results26,go_sem,e0,e1,e2,e3,j0,j1,j2,j3,j4,j5]) rfl ?_
  rw[HE.out]
  rw[HIF.out]
  exact⟨m2,a2,n2,c2,la2,dn2,none,0,rfl,D9,V9,N9,.inr rfl⟩
 subst hx2
 go_upto_region 15 with fail
 have HE:Hid (R=(d2,0)):=zH (by rw[←HR.out];unfold createD;rw[if_neg HSZ.out];simp only[HRD.out,HR1.out];rw[if_neg (by decide),if_neg (by decide),if_neg (by decide)];exact HR2.out)
 have HPE:=zH (P4.out)
 have HOE:Hid (∀gg,(Value.slice (some ⟨q2,0,none⟩) (newLg size).l.length 1).ownBlock=some gg→(X gg∧gg<w.heap.size∨K≤gg)):=zH (fun g hg=>by have h1:q2=g:=(by simpa [Value.ownBlock] using hg);have:=HW2.out;omega)
 have HIF:Hid (LR=newLg size):=zH (by rw[←HLR.out,HE.out];exact if_pos rfl)
 obtain⟨⟨b0,b1,b2,b3⟩,⟨u0,u1,u2,u3,r0,r1,r2,r3,f0,f1,f2,f3⟩,⟨v0,v1,v2,v3,v4,v5,⟨s0,s1,s2,s3,s4,s5⟩,g0,g1,g2,g3,g4,g5⟩,e1,e2,e3⟩:=S4.out.told
 go_wp2
 obtain⟨w9,hw9,D9,V9,N9,BD9,BL9⟩:=S4.out.fin (L:=newLg size) HX.out HPE.out HOE.out
 unfold newLg at hw9 BL9
 unfold logB at BL9
 simp only[HHB.out]at hw9 BL9
 have hw9:((((((((((w4.setCell ⟨rd,0,none⟩ (.int .i64 m2)).setCell ⟨rd,1,none⟩ (.slice a2 n2 c2)).setCell ⟨rd,2,none⟩ (.int .i64 la2)).setCell ⟨rd,3,none⟩ (.bool dn2)).setCell ⟨rl,0,none⟩ (.int .i64 size)).setCell ⟨rl,1,none⟩ (.slice (some ⟨q2,0,none⟩) 1 1)).setCell ⟨rl,2,none⟩ (.int .i64 0)).setCell ⟨rl,3,none⟩ (.int .i64 0)).setCell ⟨rl,4,none⟩ (.int .i64 hb)).setCell ⟨rl,5,none⟩ (.bool false))=w9:=hw9
 have BL9:w9.heap[rl]? = some (LB (.int .i64 size) (.slice (some ⟨q2,0,none⟩) 1 1) (.int .i64 0) (.int .i64 0) (.int .i64 hb) (.bool false)):=BL9
 rw[hw9]
 obtain⟨e0,e1,e2,e3,-⟩:=box_cells BD9
 obtain⟨⟨j0,j1,j2,j3,j4,j5⟩,-⟩:=lb_cells BL9
 refine bodyPost_ret (v:=.tuple #[.agg #[.int .i64 m2,.slice a2 n2 c2,.int .i64 la2,.bool dn2],.agg #[.int .i64 size,.slice (some ⟨q2,0,none⟩) 1 1,.int .i64 0,.int .i64 0,.int .i64 hb,.bool false],.int .i64 0]) (by simp[results,Tryz.results26,go_sem,e0,e1,e2,e3,j0,j1,j2,j3,j4,j5]) rfl ?_
 rw[HE.out]
 rw[HIF.out]
 exact⟨m2,a2,n2,c2,la2,dn2,(some ⟨q2,0,none⟩),1,by simp[newLg,HHB.out],D9,V9,N9,.inl (by simp[newLg])⟩
theorem dResume_ok (h:RD X w v d0) (hX:∀k,w.heap.size≤k→X k){pv:Value}{l:List Pc}(hl:Pcs w pv l) (ho:l≠[]→∀g,pv.ownBlock=some g→X g){size:Int}(hs:64≤size∧size≤16777216) (n:Int) :
  Calls Tryz.prog 37 #[v,.int .i64 size,pv,.int .i64 n] w (RDM X w (resumeD d0 size l n).1 (if (resumeD d0 size l n).2=0 then onLg d0 size l n.toNat else noLg) (resumeD d0 size l n).2):=by
 obtain⟨pa,pc,rfl,-,-⟩:=hl.elem
 have HP:=zH hl
 have HOB:=zH ho
 have RT:=zH (fun W (hW:Nw w W)=>dRight_ok (hl.nw hW))
 have y1:decide (size<64)=false:=by simp;omega
 have y2:decide ((16777216:Int)<size)=false:=by simp;omega
 have HSZ:=zH hs
 obtain⟨R,hR⟩:=zN (resumeD d0 size l n)
 have HR:=zH hR
 rw[hR]
 clear hR hl ho hs
 obtain⟨LR,hLR⟩:=zN ((if R.2=0 then onLg d0 size l n.toNat else noLg))
 have HLR:=zH hLR
 rw[hLR]
 clear hLR
 obtain⟨m0,a0,n0,c0,la0,dn0,rfl⟩:=h.parts
 have S0:=zH (St3.new h)
 have HX:=zH hX
 clear h hX
 obtain⟨w0,hw0⟩:=zN (((w.alloc (DB (.int .i64 m0) (.slice a0 n0 c0) (.int .i64 la0) (.bool dn0))).alloc (DB (.int .i64 0) (.slice none 0 0) (.int .i64 0) (.bool false))).alloc (LB (.int .i64 0) (.slice none 0 0) (.int .i64 0) (.int .i64 0) (.int .i64 0) (.bool false)))
 rw[hw0]at S0
 unfold LB DB at hw0
 go_enter Tryz.func37,Tryz.ntmps37
 go_upto_region 1 with fail
 clear hw0
 generalize w.heap.size+3=K at S0
 generalize w.heap.size+1+1=rl at S0 ⊢
 generalize w.heap.size+1=rd at S0 ⊢
 generalize w.heap.size=pd at S0 ⊢
 have N0:=zH S0.out.nw
 cases hrt:rightL l
 case false =>
  have HRT:=zH hrt
  have RT:=RT.out _ N0.out
  rw[hrt]at RT
  have RT:=zH RT
  clear hrt
  go_wp2_with fail
  refine RT.out.mono ?_
  rintro e w1 ⟨rfl,nn⟩
  have S1:=zH (S0.out.on nn)
  clear nn RT
  go_upto_region 2 with fail
  have HE:Hid (R=(d0,2)):=zH (by rw[←HR.out];unfold resumeD;rw[if_pos (.inr (.inr (.inl HRT.out)))])
  have HIF:Hid (LR=noLg):=zH (by rw[←HLR.out,HE.out];exact if_neg (by simp))
  obtain⟨⟨b0,b1,b2,b3⟩,⟨u0,u1,u2,u3,r0,r1,r2,r3,f0,f1,f2,f3⟩,⟨v0,v1,v2,v3,v4,v5,⟨s0,s1,s2,s3,s4,s5⟩,g0,g1,g2,g3,g4,g5⟩,e1,e2,e3⟩:=S1.out.told
  go_wp2
  obtain⟨w9,hw9,D9,V9,N9,BD9,BL9⟩:=S1.out.fin0 HX.out
  rw[hw9]
  obtain⟨e0,e1,e2,e3,-⟩:=box_cells BD9
  obtain⟨⟨j0,j1,j2,j3,j4,j5⟩,-⟩:=lb_cells BL9
  refine bodyPost_ret (v:=.tuple #[.agg #[.int .i64 m0,.slice a0 n0 c0,.int .i64 la0,.bool dn0],.agg #[.int .i64 0,.slice none 0 0,.int .i64 0,.int .i64 0,.int .i64 0,.bool false],.int .i64 2]) (by simp[results,Tryz.results37,go_sem,e0,e1,e2,e3,j0,j1,j2,j3,j4,j5]) rfl ?_
  rw[HE.out]
  rw[HIF.out]
  exact⟨m0,a0,n0,c0,la0,dn0,none,0,rfl,D9,V9,N9,.inr rfl⟩
 have HRT:=zH hrt
 have RTT:=RT.out _ N0.out
 rw[hrt]at RTT
 have RTT:=zH RTT
 obtain⟨hb1,hb2,hb3⟩:=rightL_bound hrt
 have hne:l≠[]:=fun e=>by rw[e]at hb1;simp at hb1
 have HNE:=zH hne
 have hm9:lastP l∈l:=by
  have:lastP l∈l.dropLast++[lastP l]:=by simp
  rwa [←split_last hne]at this
 have HF9:=zH (hb3 _ hm9).2.1
 obtain⟨g,o,hpa,hg,⟨hl0,hl1,hl2⟩,l0,l1,-,-,hnl,-⟩:=pcs_lastAt HP.out hne
 subst hpa
 have l0:=N0.out.cell l0
 have l1:=N0.out.cell l1
 obtain⟨nm,hnm⟩:=zN ((lastP l).name)
 obtain⟨fi,hfi⟩:=zN ((lastP l).first)
 have HNM:=zH hnm
 have HFI:=zH hfi
 rw[hnm]at l0 hnl
 rw[hfi]at l1
 have HNL:=zH hnl
 have C0:=zH l0
 have C1:=zH l1
 have HG:=zH hg
 have hj:IntKind.i64.wrap ((l.length:Int)-1)=((l.length-1:Nat):Int):=by rw[show ((l.length:Int)-1)=((l.length-1:Nat):Int) by omega];exact IntWalk.i64_in _ (by omega)
 have hk0:(0:Int)≤((l.length-1:Nat):Int):=by omega
 have hk1:((l.length-1:Nat):Int)<(l.length:Int):=by omega
 clear hb1 hb2 hb3 hne hm9 hnm hfi hnl l0 l1 hrt hg RT
 by_cases hf:n<fi
 case pos =>
  have y3:decide (n<fi)=true:=by simpa using hf
  have HF:=zH hf
  clear hf
  go_wp2_with fail
  refine RTT.out.mono ?_
  rintro e w1 ⟨rfl,nn⟩
  have S1:=zH (S0.out.on nn)
  have l1:=nn.cell C1.out
  clear nn RTT
  go_upto_region 2 with fail
  have HE:Hid (R=(d0,2)):=zH (by rw[←HR.out];unfold resumeD;rw[if_pos (.inr (.inr (.inr (.inl (by rw[HFI.out];exact HF.out)))))])
  have HIF:Hid (LR=noLg):=zH (by rw[←HLR.out,HE.out];exact if_neg (by simp))
  obtain⟨⟨b0,b1,b2,b3⟩,⟨u0,u1,u2,u3,r0,r1,r2,r3,f0,f1,f2,f3⟩,⟨v0,v1,v2,v3,v4,v5,⟨s0,s1,s2,s3,s4,s5⟩,g0,g1,g2,g3,g4,g5⟩,e1,e2,e3⟩:=S1.out.told
  go_wp2
  obtain⟨w9,hw9,D9,V9,N9,BD9,BL9⟩:=S1.out.fin0 HX.out
  rw[hw9]
  obtain⟨e0,e1,e2,e3,-⟩:=box_cells BD9
  obtain⟨⟨j0,j1,j2,j3,j4,j5⟩,-⟩:=lb_cells BL9
  refine bodyPost_ret (v:=.tuple #[.agg #[.int .i64 m0,.slice a0 n0 c0,.int .i64 la0,.bool dn0],.agg #[.int .i64 0,.slice none 0 0,.int .i64 0,.int .i64 0,.int .i64 0,.bool false],.int .i64 2]) (by simp[results,Tryz.results37,go_sem,e0,e1,e2,e3,j0,j1,j2,j3,j4,j5]) rfl ?_
  rw[HE.out]
  rw[HIF.out]
  exact⟨m0,a0,n0,c0,la0,dn0,none,0,rfl,D9,V9,N9,.inr rfl⟩
 have y3:decide (n<fi)=false:=by simpa using hf
 by_cases hbig:2305843009213693952<n
 case pos =>
  have y4:decide ((2305843009213693952:Int)<n)=true:=by simpa using hbig
  have HF:=zH hbig
  clear hf hbig
  go_wp2_with fail
  refine RTT.out.mono ?_
  rintro e w1 ⟨rfl,nn⟩
  have S1:=zH (S0.out.on nn)
  have l1:=nn.cell C1.out
  clear nn RTT
  go_upto_region 2 with fail
  have HE:Hid (R=(d0,2)):=zH (by rw[←HR.out];unfold resumeD;rw[if_pos (.inr (.inr (.inr (.inr HF.out))))])
  have HIF:Hid (LR=noLg):=zH (by rw[←HLR.out,HE.out];exact if_neg (by simp))
  obtain⟨⟨b0,b1,b2,b3⟩,⟨u0,u1,u2,u3,r0,r1,r2,r3,f0,f1,f2,f3⟩,⟨v0,v1,v2,v3,v4,v5,⟨s0,s1,s2,s3,s4,s5⟩,g0,g1,g2,g3,g4,g5⟩,e1,e2,e3⟩:=S1.out.told
  go_wp2
  obtain⟨w9,hw9,D9,V9,N9,BD9,BL9⟩:=S1.out.fin0 HX.out
  rw[hw9]
  obtain⟨e0,e1,e2,e3,-⟩:=box_cells BD9
  obtain⟨⟨j0,j1,j2,j3,j4,j5⟩,-⟩:=lb_cells BL9
  refine bodyPost_ret (v:=.tuple #[.agg #[.int .i64 m0,.slice a0 n0 c0,.int .i64 la0,.bool dn0],.agg #[.int .i64 0,.slice none 0 0,.int .i64 0,.int .i64 0,.int .i64 0,.bool false],.int .i64 2]) (by simp[results,Tryz.results37,go_sem,e0,e1,e2,e3,j0,j1,j2,j3,j4,j5]) rfl ?_
  rw[HE.out]
  rw[HIF.out]
  exact⟨m0,a0,n0,c0,la0,dn0,none,0,rfl,D9,V9,N9,.inr rfl⟩
 have y4:decide ((2305843009213693952:Int)<n)=false:=by simpa using hbig
 have HCO:Hid (¬ (size<64∨16777216<size∨rightL l=false∨n<(lastP l).first∨2305843009213693952<n)):=zH (by
  rw[HFI.out,HRT.out]
  rintro (h|h|h|h|h)
  ·have:=HSZ.out;omega
  ·have:=HSZ.out;omega
  ·cases h
  ·exact hf h
  ·exact hbig h)
 obtain⟨nz,rfl⟩:∃k:Nat,n=k:=⟨n.toNat,by have:=HF9.out;rw[HFI.out]at this;omega⟩
 clear hf hbig
 obtain⟨lb,xr,hrd⟩:∃l x,d0.read nm=(l,x):=⟨_,_,rfl⟩
 have HRD:=zH hrd
 have HLB:Hid (xr=0→(fileOf d0.files nm).bytes=lb):=zH (fun he=>by
  subst he
  unfold Dsk.read at hrd
  split at hrd
  ·simp at hrd
  ·unfold fileOf
   split at hrd
   ·simp at hrd
   ·rename_i f hf
    rw[hf]
    simp only[Prod.mk.injEq,and_true]at hrd
    exact hrd)
 clear hrd
 go_wp2_with fail
 refine RTT.out.mono ?_
 rintro e w1 ⟨rfl,nn⟩
 have S1:=zH (S0.out.on nn)
 have l1:=nn.cell C1.out
 have l0:=nn.cell C0.out
 go_upto_region 3 with fail
 clear l1 nn RTT y1 y2 y3 y4
 have RDD:=zH (fun W (hW:Nw w1 W)=>(S1.out.on hW).rdk.read HRD.out)
 obtain⟨b0,b1,b2,b3,k0,k1,k2,k3⟩:=box_cells S1.out.bd
 have HC3:Hid (∀W,Nw w1 W→W.cell? ⟨pd,0,none⟩=some (.int .i64 m0)∧W.cell? ⟨pd,1,none⟩=some (.slice a0 n0 c0)∧W.cell? ⟨pd,2,none⟩=some (.int .i64 la0)∧W.cell? ⟨pd,3,none⟩=some (.bool dn0)∧W.cell? ⟨g,o+(l.length-1)*4,none⟩=some (.string ⟨nm.toArray⟩)):=zH (fun W hW=>⟨hW.cell b0,hW.cell b1,hW.cell b2,hW.cell b3,hW.cell l0⟩)
 clear b0 b1 b2 b3 k0 k1 k2 k3 l0
 refine wp_region_steps 13 [.rd 0,.rd 1,.rd 2,.rd 3,.rd 4,.rd 5,.rd 6,.rd 7,.dn 8,.rd 9,.rd 10,.rd 11,.dn 12] [13] (fun x=>x.cell? ⟨pd,0,none⟩=some (.int .i64 m0)∧x.cell? ⟨pd,1,none⟩=some (.slice a0 n0 c0)∧x.cell? ⟨pd,2,none⟩=some (.int .i64 la0)∧x.cell? ⟨pd,3,none⟩=some (.bool dn0)∧x.cell? ⟨g,o+(l.length-1)*4,none⟩=some (.string ⟨nm.toArray⟩)) (by kernel_rfl) (by kernel_rfl) (fun _ _ _ _ _ h=>h) (HC3.out _ ((Nw.refl w1).drew)) ?_
 refine stp_to (.agg #[.int .i64 m0,.slice a0 n0 c0,.int .i64 la0,.bool dn0]) rfl rfl (by kernel_rfl) (fun x hx=>by obtain⟨e1,e2,e3,e4,e5⟩:=hx;go_simp) (fun K' hK=>?_);go_simp;refine hK _ ?_;clear hK K'
 refine stp_to (.slice (some ⟨g,o,none⟩) l.length pc) rfl rfl (by kernel_rfl) (fun x hx=>by go_simp) (fun K' hK=>?_);go_simp;refine hK _ ?_;clear hK K'
 refine stp_to (.slice (some ⟨g,o,none⟩) l.length pc) rfl rfl (by kernel_rfl) (fun x hx=>by go_simp) (fun K' hK=>?_);go_simp;refine hK _ ?_;clear hK K'
 refine stp_to (.int .i64 l.length) rfl rfl (by kernel_rfl) (fun x hx=>by go_simp) (fun K' hK=>?_);go_simp;refine hK _ ?_;clear hK K'
 refine stp_to (.int .i64 ((l.length-1:Nat):Int)) rfl rfl (by kernel_rfl) (fun x hx=>by go_simp) (fun K' hK=>?_);go_simp;refine hK _ ?_;clear hK K'
 refine stp_to (.pointer (some ⟨g,o+(l.length-1)*4,none⟩)) rfl rfl (by kernel_rfl) (fun x hx=>by go_simp) (fun K' hK=>?_);go_simp;refine hK _ ?_;clear hK K'
 refine stp_to (.pointer (some ⟨g,o+(l.length-1)*4,none⟩)) rfl rfl (by kernel_rfl) (fun x hx=>by go_simp) (fun K' hK=>?_);go_simp;refine hK _ ?_;clear hK K'
 refine stp_to (.string ⟨nm.toArray⟩) rfl rfl (by kernel_rfl) (fun x hx=>by obtain⟨e1,e2,e3,e4,e5⟩:=hx;go_simp) (fun K' hK=>?_);go_simp;refine hK _ ?_;clear hK K'
 refine stp_dn rfl (fun K' hK=>?_)
 go_wp2_with fail
 refine (RDD.out _ ((Nw.refl w1).drew)).mono ?_
 rintro e w2 ⟨ra,rc,rfl,rb,nn⟩
 have NN:=zH (((Nw.refl w1).drew).trans nn)
 clear rb nn RDD
 go_wp2
 refine hK _ _ (HC3.out _ NN.out) ?_;clear hK K'
 refine stp_to (.tuple #[.slice ra lb.length rc,.int .i64 xr]) rfl rfl (by kernel_rfl) (fun x hx=>by go_simp) (fun K' hK=>?_);go_simp;refine hK _ ?_;clear hK K'
 refine stp_to (.slice ra lb.length rc) rfl rfl (by kernel_rfl) (fun x hx=>by go_simp) (fun K' hK=>?_);go_simp;refine hK _ ?_;clear hK K'
 refine stp_to (.int .i64 xr) rfl rfl (by kernel_rfl) (fun x hx=>by go_simp) (fun K' hK=>?_);go_simp;refine hK _ ?_;clear hK K'
 refine stp_dn rfl (fun K' hK=>?_)
 go_wp2
 refine hK _ _ (HC3.out _ NN.out) ?_;clear hK K'
 refine wpSteps_nil ?_
 refine stp_do rfl (by decide) (fun K' hK=>?_)
 go_wp2
 (try (refine hK _ _ ?_;clear hK K'))
 refine wpNums_nil ?_
 have S2:=zH (S1.out.on NN.out)
 have C2:=zH (HC3.out _ NN.out).2.2.2.2
 clear HC3 NN
 by_cases hx:xr=0
 case neg =>
  have y1:(xr==0)=false:=by simpa using hx
  have y2:(xr !=0)=true:=by simpa using hx
  have HX0:=zH hx
  clear hx
  go_upto_region 7 with fail
  have HE:Hid (R=(d0,xr)):=zH (by rw[←HR.out];unfold resumeD;rw[if_neg HCO.out,HNM.out];simp only[HRD.out];rw[if_pos HX0.out])
  have HIF:Hid (LR=noLg):=zH (by rw[←HLR.out,HE.out];exact if_neg (HX0.out))
  obtain⟨⟨b0,b1,b2,b3⟩,⟨u0,u1,u2,u3,r0,r1,r2,r3,f0,f1,f2,f3⟩,⟨v0,v1,v2,v3,v4,v5,⟨s0,s1,s2,s3,s4,s5⟩,g0,g1,g2,g3,g4,g5⟩,e1,e2,e3⟩:=S2.out.told
  go_wp2
  obtain⟨w9,hw9,D9,V9,N9,BD9,BL9⟩:=S2.out.fin0 HX.out
  rw[hw9]
  obtain⟨e0,e1,e2,e3,-⟩:=box_cells BD9
  obtain⟨⟨j0,j1,j2,j3,j4,j5⟩,-⟩:=lb_cells BL9
  refine bodyPost_ret (v:=.tuple #[.agg #[.int .i64 m0,.slice a0 n0 c0,.int .i64 la0,.bool dn0],.agg #[.int .i64 0,.slice none 0 0,.int .i64 0,.int .i64 0,.int .i64 0,.bool false],.int .i64 xr]) (by simp[results,Tryz.results37,go_sem,e0,e1,e2,e3,j0,j1,j2,j3,j4,j5]) rfl ?_
  rw[HE.out]
  rw[HIF.out]
  exact⟨m0,a0,n0,c0,la0,dn0,none,0,rfl,D9,V9,N9,.inr rfl⟩
 subst hx
 obtain⟨d1,x1,hr1⟩:∃d1 x1,d0.sync nm=(d1,x1):=⟨_,_,rfl⟩
 have HR1:=zH hr1
 clear hr1
 have SYC:=zH (fun W (hW:Nw w2 W)=>(S2.out.on hW).rdk.sync (S2.out.on hW).fresh HR1.out)
 go_upto_if 54 with fail
 go_cut [12] (fun t wx=>∃(m1:Int) (a1:Option Addr) (n1 c1:Nat) (la1:Int) (dn1:Bool),t=.int .i64 x1∧St3 X w wx pd rd rl K d1 m1 a1 n1 c1 la1 dn1)
 case first =>
  have HC5:Hid (∀W,Nw w2 W→W.cell? ⟨g,o+(l.length-1)*4,none⟩=some (.string ⟨nm.toArray⟩)):=zH (fun W hW=>hW.cell C2.out)
  obtain⟨b0,b1,b2,b3,-⟩:=box_cells S2.out.bd
  have ND:=(Nw.refl w2).drew
  have b0:=ND.cell b0
  have b1:=ND.cell b1
  have b2:=ND.cell b2
  have b3:=ND.cell b3
  have hgp:¬ g=pd:=fun e=>by have:=HG.out;have:=S0.out.lo;omega
  have HGP:=zH hgp
  clear ND hgp
  go_upto_region 5 with fail
  refine wp_region_steps 13 [.rd 1,.rd 2,.rd 3,.rd 4,.rd 5,.rd 6,.rd 7,.dn 0,.dn 8,.rd 9,.rd 10,.rd 11,.dn 12] [13] (fun x=>x.cell? ⟨g,o+(l.length-1)*4,none⟩=some (.string ⟨nm.toArray⟩)) (by kernel_rfl) (by kernel_rfl) (fun _ _ _ _ _ h=>h) (HC5.out _ ((Nw.refl w2).drew)) ?_
  refine stp_to (.slice (some ⟨g,o,none⟩) l.length pc) rfl rfl (by kernel_rfl) (fun x hx=>by go_simp) (fun K' hK=>?_);go_simp;refine hK _ ?_;clear hK K'
  refine stp_to (.slice (some ⟨g,o,none⟩) l.length pc) rfl rfl (by kernel_rfl) (fun x hx=>by go_simp) (fun K' hK=>?_);go_simp;refine hK _ ?_;clear hK K'
  refine stp_to (.int .i64 l.length) rfl rfl (by kernel_rfl) (fun x hx=>by go_simp) (fun K' hK=>?_);go_simp;refine hK _ ?_;clear hK K'
  refine stp_to (.int .i64 ((l.length-1:Nat):Int)) rfl rfl (by kernel_rfl) (fun x hx=>by go_simp) (fun K' hK=>?_);go_simp;refine hK _ ?_;clear hK K'
  refine stp_to (.pointer (some ⟨g,o+(l.length-1)*4,none⟩)) rfl rfl (by kernel_rfl) (fun x hx=>by go_simp) (fun K' hK=>?_);go_simp;refine hK _ ?_;clear hK K'
  refine stp_to (.pointer (some ⟨g,o+(l.length-1)*4,none⟩)) rfl rfl (by kernel_rfl) (fun x hx=>by go_simp) (fun K' hK=>?_);go_simp;refine hK _ ?_;clear hK K'
  refine stp_to (.string ⟨nm.toArray⟩) rfl rfl (by kernel_rfl) (fun x hx=>by have e1:=hx;go_simp) (fun K' hK=>?_);go_simp;refine hK _ ?_;clear hK K'
  refine stp_dn rfl (fun K' hK=>?_)
  go_wp2
  refine hK _ _ (HC5.out _ ((Nw.refl w2).drew)) ?_;clear hK K' b0 b1 b2 b3
  refine stp_dn rfl (fun K' hK=>?_)
  go_wp2_with fail
  refine (SYC.out _ ((Nw.refl w2).drew)).mono ?_
  rintro e z1 ⟨m1,a1,n1,c1,la1,dn1,rfl,dd,nn⟩
  have NN:=zH (((Nw.refl w2).drew).trans nn)
  obtain⟨w9,hw9,s9,o9⟩:=S2.out.step dd NN.out
  have S9:=zH s9
  have C3:=zH (HC5.out _ NN.out)
  have C4:=zH (o9.cell C3.out HGP.out)
  have SN:=zH (S2.out.on NN.out)
  clear dd nn s9 o9
  go_wp2
  refine hK _ _ C3.out ?_;clear hK K'
  refine stp_to (.tuple #[.agg #[.int .i64 m1,.slice a1 n1 c1,.int .i64 la1,.bool dn1],.int .i64 x1]) rfl rfl (by kernel_rfl) (fun x hx=>by go_simp) (fun K' hK=>?_);go_simp;refine hK _ ?_;clear hK K'
  refine stp_to (.agg #[.int .i64 m1,.slice a1 n1 c1,.int .i64 la1,.bool dn1]) rfl rfl (by kernel_rfl) (fun x hx=>by go_simp) (fun K' hK=>?_);go_simp;refine hK _ ?_;clear hK K'
  refine stp_to (.int .i64 x1) rfl rfl (by kernel_rfl) (fun x hx=>by go_simp) (fun K' hK=>?_);go_simp;refine hK _ ?_;clear hK K'
  obtain⟨p0,p1,p2,p3,r0,r1,r2,r3⟩:=box_cells SN.out.bd
  refine stp_dn rfl (fun K' hK=>?_)
  go_wp2
  (try rw[hw9])
  refine hK _ _ C4.out ?_;clear hK K' hw9 p0 p1 p2 p3 r0 r1 r2 r3
  refine wpSteps_nil ?_
  refine stp_do rfl (by decide) (fun K' hK=>?_)
  go_wp2
  (try (refine hK _ _ ?_;clear hK K'))
  refine wpNums_nil ?_
  go_wp2
  go_meet
  case rel=>exact⟨m1,a1,n1,c1,la1,dn1,rfl,S9.out⟩
 case rest =>
  obtain⟨m1,a1,n1,c1,la1,dn1,rfl,s3⟩:=hcut
  have S3:=zH s3
  clear s3 SYC C2
  by_cases hx1:x1=0
  case neg =>
   have y2:(x1 !=0)=true:=by simpa using hx1
   have HX1:=zH hx1
   clear hx1
   go_upto_region 7 with fail
   have HE:Hid (R=(d1,x1)):=zH (by rw[←HR.out];unfold resumeD;rw[if_neg HCO.out,HNM.out];simp only[HRD.out];rw[if_neg (by simp)];exact HR1.out)
   have HIF:Hid (LR=noLg):=zH (by rw[←HLR.out,HE.out];exact if_neg (HX1.out))
   obtain⟨⟨b0,b1,b2,b3⟩,⟨u0,u1,u2,u3,r0,r1,r2,r3,f0,f1,f2,f3⟩,⟨v0,v1,v2,v3,v4,v5,⟨s0,s1,s2,s3,s4,s5⟩,g0,g1,g2,g3,g4,g5⟩,e1,e2,e3⟩:=S3.out.told
   go_wp2
   obtain⟨w9,hw9,D9,V9,N9,BD9,BL9⟩:=S3.out.fin0 HX.out
   rw[hw9]
   obtain⟨e0,e1,e2,e3,-⟩:=box_cells BD9
   obtain⟨⟨j0,j1,j2,j3,j4,j5⟩,-⟩:=lb_cells BL9
   refine bodyPost_ret (v:=.tuple #[.agg #[.int .i64 m1,.slice a1 n1 c1,.int .i64 la1,.bool dn1],.agg #[.int .i64 0,.slice none 0 0,.int .i64 0,.int .i64 0,.int .i64 0,.bool false],.int .i64 x1]) (by simp[results,Tryz.results37,go_sem,e0,e1,e2,e3,j0,j1,j2,j3,j4,j5]) rfl ?_
   rw[HE.out]
   rw[HIF.out]
   exact⟨m1,a1,n1,c1,la1,dn1,none,0,rfl,D9,V9,N9,.inr rfl⟩
  subst hx1
  have y2:((0:Int)!=0)=false:=by simp
  go_upto_region 8 with fail
  have HE:Hid (R=(d1,0)):=zH (by rw[←HR.out];unfold resumeD;rw[if_neg HCO.out,HNM.out];simp only[HRD.out];rw[if_neg (by simp)];exact HR1.out)
  have HPE:=zH (HP.out.nw S3.out.nw)
  have HOE:Hid (∀gg,(Value.slice (some ⟨g,o,none⟩) ((⟨size,l,nz,nz,lb.length,false⟩:Lg)).l.length pc).ownBlock=some gg→(X gg∧gg<w.heap.size∨K≤gg)):=zH (fun k hk=>.inl ⟨HOB.out HNE.out k hk,by have h1:g=k:=(by simpa [Value.ownBlock] using hk);have:=HG.out;omega⟩)
  have HIF:Hid (LR=(⟨size,l,nz,nz,lb.length,false⟩:Lg)):=zH (by rw[←HLR.out,HE.out];exact (if_pos rfl).trans (by unfold onLg;rw[HNM.out,HLB.out rfl,Int.toNat_natCast]))
  obtain⟨⟨b0,b1,b2,b3⟩,⟨u0,u1,u2,u3,r0,r1,r2,r3,f0,f1,f2,f3⟩,⟨v0,v1,v2,v3,v4,v5,⟨s0,s1,s2,s3,s4,s5⟩,g0,g1,g2,g3,g4,g5⟩,e1,e2,e3⟩:=S3.out.told
  go_wp2
  obtain⟨w9,hw9,D9,V9,N9,BD9,BL9⟩:=S3.out.fin (L:=(⟨size,l,nz,nz,lb.length,false⟩:Lg)) HX.out HPE.out HOE.out
  have hw9:((((((((((wc.setCell ⟨rd,0,none⟩ (.int .i64 m1)).setCell ⟨rd,1,none⟩ (.slice a1 n1 c1)).setCell ⟨rd,2,none⟩ (.int .i64 la1)).setCell ⟨rd,3,none⟩ (.bool dn1)).setCell ⟨rl,0,none⟩ (.int .i64 size)).setCell ⟨rl,1,none⟩ (.slice (some ⟨g,o,none⟩) l.length pc)).setCell ⟨rl,2,none⟩ (.int .i64 nz)).setCell ⟨rl,3,none⟩ (.int .i64 nz)).setCell ⟨rl,4,none⟩ (.int .i64 lb.length)).setCell ⟨rl,5,none⟩ (.bool false))=w9:=hw9
  have BL9:w9.heap[rl]? = some (LB (.int .i64 size) (.slice (some ⟨g,o,none⟩) l.length pc) (.int .i64 nz) (.int .i64 nz) (.int .i64 lb.length) (.bool false)):=BL9
  rw[hw9]
  obtain⟨e0,e1,e2,e3,-⟩:=box_cells BD9
  obtain⟨⟨j0,j1,j2,j3,j4,j5⟩,-⟩:=lb_cells BL9
  refine bodyPost_ret (v:=.tuple #[.agg #[.int .i64 m1,.slice a1 n1 c1,.int .i64 la1,.bool dn1],.agg #[.int .i64 size,.slice (some ⟨g,o,none⟩) l.length pc,.int .i64 nz,.int .i64 nz,.int .i64 lb.length,.bool false],.int .i64 0]) (by simp[results,Tryz.results37,go_sem,e0,e1,e2,e3,j0,j1,j2,j3,j4,j5]) rfl ?_
  rw[HE.out]
  rw[HIF.out]
  exact⟨m1,a1,n1,c1,la1,dn1,(some ⟨g,o,none⟩),pc,rfl,D9,V9,N9,.inl HNE.out⟩
end
end Go.Proofs.YtkbenkldfehhlaaGreatDoor
