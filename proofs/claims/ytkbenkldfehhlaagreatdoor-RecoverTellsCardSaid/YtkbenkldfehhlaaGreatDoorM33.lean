/-
  Texts merged by a program of this claim's: DocScan, DocWith, DocDense.
-/
import Derived.Test.YtkbenkldfehhlaaGreatDoorM32
import Derived.Test.YtkbenkldfehhlaaGreatDoorM26
import Derived.Test.YtkbenkldfehhlaaGreatDoorM29
import Derived.Test.YtkbenkldfehhlaaGreatDoorM31
namespace Go.Proofs.YtkbenkldfehhlaaGreatDoor
open Go Go.RowKit Go.Sort
set_option maxRecDepth 100000
set_option maxHeartbeats 1600000
theorem dScan_ok {w:World}{v:Value}{l:List UInt8}(hv:Bs w v l) (hl:l.length≤14000000){n g e:Int}{r:List Ev}(hr:scanB l=(n,r,g,e)) :
  Calls Tryz.prog 48 #[v] w fun z w'=>∃v',z=.returned (.tuple #[.int .i64 n,v',.int .i64 g,.int .i64 e])∧OwnE w w' v' r:=by
 obtain⟨a,cap,rfl,h1,h2,-⟩:=hv.elems
 obtain⟨⟨n0,x0,e0⟩,hu⟩:=zN (headR l)
 have HU:=zH (dhead_ok hv hl hu)
 unfold scanB at hr
 rw[hu]at hr
 simp only at hr
 have HV:=zH hv
 have hplace:e0=0→0≤x0∧x0≤l.length:=by
  intro h0
  unfold headR at hu
  split at hu
  ·cases hu;cases h0
  ·split at hu
   ·cases hu;cases h0
   ·split at hu
    ·cases hu;cases h0
    ·split at hu
     ·rename_i hx;cases hu;exact absurd h0 hx
     ·rename_i h4
      have hg:=getU_fine (b:=l) (at_:=4) (by rcases Decidable.em ((getU l 4).2.2=0) with h|h;exact h;exact absurd h h4)
      split at hu
      ·cases hu;cases h0
      ·split at hu
       ·rename_i hx;cases hu;exact absurd h0 hx
       ·cases hu
        omega
 clear hv h1 h2 hu
 by_cases c0:e0=0
 case neg =>
  have q1:(e0 !=0)=true:=by simpa using c0
  rw[if_pos c0]at hr
  obtain⟨rfl,rfl,rfl,rfl⟩:0=n∧[]=r∧0=g∧e0=e:=by simpa using hr
  clear hr hplace
  go_enter Tryz.func48,Tryz.ntmps48
  go_wp2_with fail
  refine HU.out.mono ?_
  rintro z w1 ⟨rfl,n1⟩
  have N1:=zH n1
  clear n1
  go_wp2
  refine bodyPost_ret (v:=.tuple #[.int .i64 0,.slice none 0 0,.int .i64 0,.int .i64 e0]) (by simp[results,Tryz.results48,go_sem]) rfl ⟨_,rfl,Vec.nil,N1.out,fun g hg=>by cases hg⟩
 subst c0
 rw[if_neg (by simp)]at hr
 obtain⟨hp0,hp1⟩:=hplace rfl
 obtain⟨E,hE⟩:=zN (frs l x0 [])
 rw[hE]at hr
 obtain⟨E1,E2⟩:=E
 obtain⟨rfl,rfl,rfl,rfl⟩:n0=n∧E1=r∧E2=g∧0=e:=by simpa using hr
 obtain⟨i0,hi,hz0,hz1,hz2⟩:=info_parts infoEv
 have HI:=zH hi
 have HZ0:=zH hz0
 have HZ1:=zH hz1
 have HZ2:=zH hz2
 have HE:=zH hE
 have HX0:=zH (And.intro hp0 hp1)
 clear hi hz0 hz1 hz2 hr hplace hE hp0 hp1
 go_enter Tryz.func48,Tryz.ntmps48
 go_wp2_with fail
 refine HU.out.mono ?_
 rintro z w1 ⟨rfl,n1⟩
 have N1:=zH n1
 clear n1
 go_wp2
 go_loopw [7,9] (fun av s wr=>∃(at_:Int) (acc:List Ev) (m:Nat),av=.int .i64 at_∧0≤at_∧at_≤l.length∧frs l at_ acc=(E1,E2)∧Vec 5 wr s m (acc.flatMap evV)∧acc.length=m∧(m:Int)≤at_∧Nw w wr∧∀g,s.ownBlock=some g→w.heap.size≤g) (fun av _ _=>l.length-(intOf av).toNat)
 case atStart=>exact⟨x0,[],0,rfl,HX0.out.1,HX0.out.2,HE.out,Vec.nil,rfl,by simpa using HX0.out.1,N1.out,fun g hg=>by cases hg⟩
 case round =>
  obtain⟨at_,acc,m,rfl,ha0,ha1,hE1,hs,hm,hma,hw,hfr⟩:=hrel
  obtain⟨⟨r1,x1,e1⟩,hg⟩:=zN (readFr l at_)
  have C:=zH (dRead_ok (HV.out.nw hw) hl at_ ⟨by omega,by omega⟩ hg)
  have HG:=zH hg
  obtain⟨sa,sc,rfl,-⟩:=hs.len
  have HS:=zH (And.intro hs (And.intro hw hfr))
  have HE1:=zH hE1
  have HM:=zH hm
  clear hg hs hw hfr hE1 hm
  go_wp2_with fail
  refine C.out.mono ?_
  rintro z w2 ⟨v2,rfl,o2⟩
  have N2:=zH o2.2.1
  by_cases hy:e1=0
  case neg =>
   have q1:(e1 !=0)=true:=by simpa using hy
   have r:=frs_no (b:=l) (at_:=at_) (by rw[HG.out];exact hy) acc
   rw[HE1.out]at r
   obtain⟨rfl,rfl⟩:E1=acc∧E2=at_:=by simpa using r
   clear r o2 C
   go_wp2
   refine bodyPost_ret (v:=.tuple #[.int .i64 n0,.slice sa m sc,.int .i64 E2,.int .i64 0]) (by simp[results,Tryz.results48,go_sem]) rfl ⟨_,rfl,?_,HS.out.2.1.trans N2.out,HS.out.2.2⟩
   rw[HM.out]
   exact HS.out.1.nw N2.out
  subst hy
  have hfine:=readFr_fine (b:=l) (at_:=at_) (by rw[HG.out])
  have hlen:=readFr_len (b:=l) (at_:=at_) (by rw[HG.out])
  have hyes:=frs_yes' HG.out acc
  rw[HG.out]at hfine hlen
  simp only at hfine hlen
  rw[HE1.out]at hyes
  have O2:=zH o2
  have HY:=zH hyes
  obtain⟨m2,hm2⟩:=zN (r1.length)
  rw[hm2]at hlen
  have hb1:=hfine.2.1
  have hb2:=hfine.2.2.1
  have HM2:=zH hm2
  have hv2:=O2.out.1
  rw[hm2]at hv2
  obtain⟨ta,tc,rfl,-⟩:=hv2.len
  have V4:=zH (HS.out.1.nw N2.out)
  have X4:=zH hv2.src
  clear hm2 hfine hyes o2 C hv2
  go_wp2_with (at_builtin;refine wpList_append_vec rfl _ _ 31 rfl 87 i0 (.agg #[.int .i64 0,.int .u8 0,.int .i64 0,.int .i64 0,.int .i64 0]) 5 40 Tryz.underlying31 HI.out HZ0.out HZ1.out HZ2.out rfl (by decide) rfl rfl V4.out X4.out ?c1 ?c2 ?c3 ?_)
  case c1=>exact evV_one r1
  case c2=>unfold maxLen;omega
  case c3=>omega
  intro v5 w5 q5 q6 q7
  obtain⟨ya,yc,rfl,-⟩:=q5.len
  have Q:=zH (And.intro q5 (And.intro q6 q7))
  clear q5 q6 q7
  go_wp2
  go_roundw
  case rel =>
   refine⟨x1,acc++r1,m+m2,rfl,by omega,hb2,HY.out.symm,by rw[List.flatMap_append];exact Q.out.1,by rw[List.length_append,HM.out,HM2.out],by omega,?_,fun g hg=>?_⟩
   ·exact (HS.out.2.1.trans N2.out).trans' Q.out.2.1 (fun g hg hc=>by have:=HS.out.2.2 g hc;omega)
   ·rcases Q.out.2.2 with h|h
    ·exact HS.out.2.2 g (h▸hg)
    ·have h1:=h g hg
     have h2:=(HS.out.2.1.trans N2.out).size
     omega
  case measure=>simp[intOf];omega
def setC (c:Nat):Ev→Int→Ev:=match c with
 |0=>setT
 |1=>setOp
 |2=>setObj
 |3=>setA
 |_=>setB
theorem dWith_ok (w:World) (e:Ev) (c:Nat) (hc:c<5) (x:Int) (hx:in64 x) (h8:c=1→0≤x∧x≤255) :
  Calls Tryz.prog 148 #[.agg (evV e).toArray,.int .i64 c,.int .i64 x] w fun z w'=>z=.returned (.agg (evV (setC c e x)).toArray)∧Nw w w':=by
 have HX:=zH (two_boxes w (evV e).toArray (evV Ev.zero).toArray 87 87)
 obtain⟨w1,hw1⟩:=zN ((w.alloc (.cells (evV e).toArray 87 (0,0))).alloc (.cells (evV Ev.zero).toArray 87 (0,0)))
 rw[hw1]at HX
 have hw1:(w.alloc (.cells #[.int .i64 e.thread,.int .u8 e.op.toNat,.int .i64 e.obj,.int .i64 e.a,.int .i64 e.b] 87 (0,0))).alloc (.cells #[.int .i64 0,.int .u8 0,.int .i64 0,.int .i64 0,.int .i64 0] 87 (0,0))=w1:=hw1
 have hwx:IntKind.i64.wrap x=x:=IntWalk.i64_in _ hx
 obtain⟨E,hE⟩:=zN (setC c e x)
 rw[hE]
 unfold evV
 have h5:c=0∨c=1∨c=2∨c=3∨c=4:=by omega
 rcases h5 with rfl|rfl|rfl|rfl|rfl
 ·have HS:Hid ((w1.setCell ⟨w.heap.size,0,none⟩ (.int .i64 x)).heap[w.heap.size]? = some (.cells (evV E).toArray 87 (0,0))):=zH (by rw[heap_setCell_at HX.out.2.1 0 (.int .i64 x),←hE];rfl)
  have ho:Only (fun k=>k=w.heap.size) w1 (w1.setCell ⟨w.heap.size,0,none⟩ (.int .i64 x)):=Only.setCell (S:=fun k=>k=w.heap.size) (p:=⟨w.heap.size,0,none⟩) (Only.refl w1) (fun _=>rfl) _
  have HB2:=zH (ho.at_ HX.out.2.2.1 (by omega))
  have NN:=zH (HX.out.1.trans' ho (fun k hk hc=>by omega))
  clear ho hE
  go_enter Tryz.func148,Tryz.ntmps148
  go_upto_region 1 with fail
  clear hw1
  obtain⟨c0,c1,c2,c3,c4,cf⟩:=evV_cells HX.out.2.1
  have fc:=cf 0
  have hlt:=lt_of_block HX.out.2.1
  clear cf
  go_upto_region 11 with fail
  generalize w1.setCell ⟨w.heap.size,0,none⟩ (.int .i64 x)=w2 at HS HB2 NN ⊢
  clear c0 c1 c2 c3 c4 fc hlt
  obtain⟨x0,x1,x2,x3,x4,-⟩:=evV_cells HS.out
  obtain⟨z0,z1,z2,z3,z4,zf⟩:=evV_cells HB2.out
  have y0:=zf 0
  have y1:=zf 1
  have y2:=zf 2
  have y3:=zf 3
  have y4:=zf 4
  have hl1:=lt_of_block HS.out
  have hl2:=lt_of_block HB2.out
  have hb5:=heap_set5 (w1:=w2) (p:=w.heap.size+1) (t:=87) HB2.out (.int .i64 E.thread) (.int .u8 E.op.toNat) (.int .i64 E.obj) (.int .i64 E.a) (.int .i64 E.b)
  have ho5:=only_set5 w2 (w.heap.size+1) (.int .i64 E.thread) (.int .u8 E.op.toNat) (.int .i64 E.obj) (.int .i64 E.a) (.int .i64 E.b)
  have N:=zH (NN.out.trans' ho5 (fun k hk hc=>by omega))
  obtain⟨r0,r1,r2,r3,r4,-⟩:=evV_cells (h:=E) hb5
  clear hb5 ho5 zf HS HB2 NN
  go_wp2
  refine bodyPost_ret (v:=.agg #[.int .i64 E.thread,.int .u8 E.op.toNat,.int .i64 E.obj,.int .i64 E.a,.int .i64 E.b]) (by simp[results,Tryz.results148,go_sem,r0,r1,r2,r3,r4]) rfl ⟨rfl,N.out⟩
 ·obtain⟨hx0,hx1⟩:=h8 rfl
  have hw8:IntKind.u8.wrap x=x:=by rw[IntKind.wrap_u8];omega
  have hval:((setOp e x).op.toNat:Int)=x:=by
   have h:(((x % 256).toNat % 256:Nat):Int)=x:=by omega
   simp[setOp]
   omega
  have HS:Hid ((w1.setCell ⟨w.heap.size,1,none⟩ (.int .u8 x)).heap[w.heap.size]? = some (.cells (evV E).toArray 87 (0,0))):=zH (by rw[heap_setCell_at HX.out.2.1 1 (.int .u8 x),←hE];show some (Obj.cells (#[.int .i64 e.thread,.int .u8 x,.int .i64 e.obj,.int .i64 e.a,.int .i64 e.b]) 87 (0,0))=some (.cells #[.int .i64 e.thread,.int .u8 ((setOp e x).op.toNat),.int .i64 e.obj,.int .i64 e.a,.int .i64 e.b] 87 (0,0));rw[hval])
  clear hval hx0 hx1
  have ho:Only (fun k=>k=w.heap.size) w1 (w1.setCell ⟨w.heap.size,1,none⟩ (.int .u8 x)):=Only.setCell (S:=fun k=>k=w.heap.size) (p:=⟨w.heap.size,1,none⟩) (Only.refl w1) (fun _=>rfl) _
  have HB2:=zH (ho.at_ HX.out.2.2.1 (by omega))
  have NN:=zH (HX.out.1.trans' ho (fun k hk hc=>by omega))
  clear ho hE
  go_enter Tryz.func148,Tryz.ntmps148
  go_upto_region 1 with fail
  clear hw1
  obtain⟨c0,c1,c2,c3,c4,cf⟩:=evV_cells HX.out.2.1
  have fc:=cf 1
  have hlt:=lt_of_block HX.out.2.1
  clear cf
  go_upto_region 11 with fail
  generalize w1.setCell ⟨w.heap.size,1,none⟩ (.int .u8 x)=w2 at HS HB2 NN ⊢
  clear c0 c1 c2 c3 c4 fc hlt
  obtain⟨x0,x1,x2,x3,x4,-⟩:=evV_cells HS.out
  obtain⟨z0,z1,z2,z3,z4,zf⟩:=evV_cells HB2.out
  have y0:=zf 0
  have y1:=zf 1
  have y2:=zf 2
  have y3:=zf 3
  have y4:=zf 4
  have hl1:=lt_of_block HS.out
  have hl2:=lt_of_block HB2.out
  have hb5:=heap_set5 (w1:=w2) (p:=w.heap.size+1) (t:=87) HB2.out (.int .i64 E.thread) (.int .u8 E.op.toNat) (.int .i64 E.obj) (.int .i64 E.a) (.int .i64 E.b)
  have ho5:=only_set5 w2 (w.heap.size+1) (.int .i64 E.thread) (.int .u8 E.op.toNat) (.int .i64 E.obj) (.int .i64 E.a) (.int .i64 E.b)
  have N:=zH (NN.out.trans' ho5 (fun k hk hc=>by omega))
  obtain⟨r0,r1,r2,r3,r4,-⟩:=evV_cells (h:=E) hb5
  clear hb5 ho5 zf HS HB2 NN
  go_wp2
  refine bodyPost_ret (v:=.agg #[.int .i64 E.thread,.int .u8 E.op.toNat,.int .i64 E.obj,.int .i64 E.a,.int .i64 E.b]) (by simp[results,Tryz.results148,go_sem,r0,r1,r2,r3,r4]) rfl ⟨rfl,N.out⟩
 ·have HS:Hid ((w1.setCell ⟨w.heap.size,2,none⟩ (.int .i64 x)).heap[w.heap.size]? = some (.cells (evV E).toArray 87 (0,0))):=zH (by rw[heap_setCell_at HX.out.2.1 2 (.int .i64 x),←hE];rfl)
  have ho:Only (fun k=>k=w.heap.size) w1 (w1.setCell ⟨w.heap.size,2,none⟩ (.int .i64 x)):=Only.setCell (S:=fun k=>k=w.heap.size) (p:=⟨w.heap.size,2,none⟩) (Only.refl w1) (fun _=>rfl) _
  have HB2:=zH (ho.at_ HX.out.2.2.1 (by omega))
  have NN:=zH (HX.out.1.trans' ho (fun k hk hc=>by omega))
  clear ho hE
  go_enter Tryz.func148,Tryz.ntmps148
  go_upto_region 1 with fail
  clear hw1
  obtain⟨c0,c1,c2,c3,c4,cf⟩:=evV_cells HX.out.2.1
  have fc:=cf 2
  have hlt:=lt_of_block HX.out.2.1
  clear cf
  go_upto_region 11 with fail
  generalize w1.setCell ⟨w.heap.size,2,none⟩ (.int .i64 x)=w2 at HS HB2 NN ⊢
  clear c0 c1 c2 c3 c4 fc hlt
  obtain⟨x0,x1,x2,x3,x4,-⟩:=evV_cells HS.out
  obtain⟨z0,z1,z2,z3,z4,zf⟩:=evV_cells HB2.out
  have y0:=zf 0
  have y1:=zf 1
  have y2:=zf 2
  have y3:=zf 3
  have y4:=zf 4
  have hl1:=lt_of_block HS.out
  have hl2:=lt_of_block HB2.out
  have hb5:=heap_set5 (w1:=w2) (p:=w.heap.size+1) (t:=87) HB2.out (.int .i64 E.thread) (.int .u8 E.op.toNat) (.int .i64 E.obj) (.int .i64 E.a) (.int .i64 E.b)
  have ho5:=only_set5 w2 (w.heap.size+1) (.int .i64 E.thread) (.int .u8 E.op.toNat) (.int .i64 E.obj) (.int .i64 E.a) (.int .i64 E.b)
  have N:=zH (NN.out.trans' ho5 (fun k hk hc=>by omega))
  obtain⟨r0,r1,r2,r3,r4,-⟩:=evV_cells (h:=E) hb5
  clear hb5 ho5 zf HS HB2 NN
  go_wp2
  refine bodyPost_ret (v:=.agg #[.int .i64 E.thread,.int .u8 E.op.toNat,.int .i64 E.obj,.int .i64 E.a,.int .i64 E.b]) (by simp[results,Tryz.results148,go_sem,r0,r1,r2,r3,r4]) rfl ⟨rfl,N.out⟩
 ·have HS:Hid ((w1.setCell ⟨w.heap.size,3,none⟩ (.int .i64 x)).heap[w.heap.size]? = some (.cells (evV E).toArray 87 (0,0))):=zH (by rw[heap_setCell_at HX.out.2.1 3 (.int .i64 x),←hE];rfl)
  have ho:Only (fun k=>k=w.heap.size) w1 (w1.setCell ⟨w.heap.size,3,none⟩ (.int .i64 x)):=Only.setCell (S:=fun k=>k=w.heap.size) (p:=⟨w.heap.size,3,none⟩) (Only.refl w1) (fun _=>rfl) _
  have HB2:=zH (ho.at_ HX.out.2.2.1 (by omega))
  have NN:=zH (HX.out.1.trans' ho (fun k hk hc=>by omega))
  clear ho hE
  go_enter Tryz.func148,Tryz.ntmps148
  go_upto_region 1 with fail
  clear hw1
  obtain⟨c0,c1,c2,c3,c4,cf⟩:=evV_cells HX.out.2.1
  have fc:=cf 3
  have hlt:=lt_of_block HX.out.2.1
  clear cf
  go_upto_region 11 with fail
  generalize w1.setCell ⟨w.heap.size,3,none⟩ (.int .i64 x)=w2 at HS HB2 NN ⊢
  clear c0 c1 c2 c3 c4 fc hlt
  obtain⟨x0,x1,x2,x3,x4,-⟩:=evV_cells HS.out
  obtain⟨z0,z1,z2,z3,z4,zf⟩:=evV_cells HB2.out
  have y0:=zf 0
  have y1:=zf 1
  have y2:=zf 2
  have y3:=zf 3
  have y4:=zf 4
  have hl1:=lt_of_block HS.out
  have hl2:=lt_of_block HB2.out
  have hb5:=heap_set5 (w1:=w2) (p:=w.heap.size+1) (t:=87) HB2.out (.int .i64 E.thread) (.int .u8 E.op.toNat) (.int .i64 E.obj) (.int .i64 E.a) (.int .i64 E.b)
  have ho5:=only_set5 w2 (w.heap.size+1) (.int .i64 E.thread) (.int .u8 E.op.toNat) (.int .i64 E.obj) (.int .i64 E.a) (.int .i64 E.b)
  have N:=zH (NN.out.trans' ho5 (fun k hk hc=>by omega))
  obtain⟨r0,r1,r2,r3,r4,-⟩:=evV_cells (h:=E) hb5
  clear hb5 ho5 zf HS HB2 NN
  go_wp2
  refine bodyPost_ret (v:=.agg #[.int .i64 E.thread,.int .u8 E.op.toNat,.int .i64 E.obj,.int .i64 E.a,.int .i64 E.b]) (by simp[results,Tryz.results148,go_sem,r0,r1,r2,r3,r4]) rfl ⟨rfl,N.out⟩
 ·have HS:Hid ((w1.setCell ⟨w.heap.size,4,none⟩ (.int .i64 x)).heap[w.heap.size]? = some (.cells (evV E).toArray 87 (0,0))):=zH (by rw[heap_setCell_at HX.out.2.1 4 (.int .i64 x),←hE];rfl)
  have ho:Only (fun k=>k=w.heap.size) w1 (w1.setCell ⟨w.heap.size,4,none⟩ (.int .i64 x)):=Only.setCell (S:=fun k=>k=w.heap.size) (p:=⟨w.heap.size,4,none⟩) (Only.refl w1) (fun _=>rfl) _
  have HB2:=zH (ho.at_ HX.out.2.2.1 (by omega))
  have NN:=zH (HX.out.1.trans' ho (fun k hk hc=>by omega))
  clear ho hE
  go_enter Tryz.func148,Tryz.ntmps148
  go_upto_region 1 with fail
  clear hw1
  obtain⟨c0,c1,c2,c3,c4,cf⟩:=evV_cells HX.out.2.1
  have fc:=cf 4
  have hlt:=lt_of_block HX.out.2.1
  clear cf
  go_upto_region 11 with fail
  generalize w1.setCell ⟨w.heap.size,4,none⟩ (.int .i64 x)=w2 at HS HB2 NN ⊢
  clear c0 c1 c2 c3 c4 fc hlt
  obtain⟨x0,x1,x2,x3,x4,-⟩:=evV_cells HS.out
  obtain⟨z0,z1,z2,z3,z4,zf⟩:=evV_cells HB2.out
  have y0:=zf 0
  have y1:=zf 1
  have y2:=zf 2
  have y3:=zf 3
  have y4:=zf 4
  have hl1:=lt_of_block HS.out
  have hl2:=lt_of_block HB2.out
  have hb5:=heap_set5 (w1:=w2) (p:=w.heap.size+1) (t:=87) HB2.out (.int .i64 E.thread) (.int .u8 E.op.toNat) (.int .i64 E.obj) (.int .i64 E.a) (.int .i64 E.b)
  have ho5:=only_set5 w2 (w.heap.size+1) (.int .i64 E.thread) (.int .u8 E.op.toNat) (.int .i64 E.obj) (.int .i64 E.a) (.int .i64 E.b)
  have N:=zH (NN.out.trans' ho5 (fun k hk hc=>by omega))
  obtain⟨r0,r1,r2,r3,r4,-⟩:=evV_cells (h:=E) hb5
  clear hb5 ho5 zf HS HB2 NN
  go_wp2
  refine bodyPost_ret (v:=.agg #[.int .i64 E.thread,.int .u8 E.op.toNat,.int .i64 E.obj,.int .i64 E.a,.int .i64 E.b]) (by simp[results,Tryz.results148,go_sem,r0,r1,r2,r3,r4]) rfl ⟨rfl,N.out⟩
set_option maxHeartbeats 3200000
def okC (c:Nat):Int→Bool:=if c=1 then okOp else okAny
theorem cols_drop {c:Nat}(h:c<5):cols.drop c=(setC c,okC c)::cols.drop (c+1):=by
 have h5:c=0∨c=1∨c=2∨c=3∨c=4:=by omega
 rcases h5 with rfl|rfl|rfl|rfl|rfl <;> rfl
theorem okC_iff (c:Nat) (x:Int):okC c x = ! decide (c=1∧(x<0∨255<x)):=by
 unfold okC
 split
 ·rename_i h
  unfold okOp
  by_cases h1:x<0
  ·have h2:¬ 0≤x:=by omega
   simp[h,h1,h2]
  ·by_cases h3:255<x
   ·have h4:¬ x≤255:=by omega
    simp[h,h3,h4]
   ·have h2:0≤x:=by omega
    have h4:x≤255:=by omega
    simp[h,h1,h2,h3,h4]
 ·rename_i h;simp[h,okAny]
theorem Vec.setEv {n cap g o i:Nat}{w:World}{l:List Ev}(h:Vec 5 w (.slice (some ⟨g,o,none⟩) n cap) n (l.flatMap evV)) (hi:i<l.length) (e:Ev) :
  Vec 5 (((((w.setCell ⟨g,o+i*5,none⟩ (.int .i64 e.thread)).setCell ⟨g,o+i*5+1,none⟩ (.int .u8 e.op.toNat)).setCell ⟨g,o+i*5+2,none⟩ (.int .i64 e.obj)).setCell ⟨g,o+i*5+3,none⟩ (.int .i64 e.a)).setCell ⟨g,o+i*5+4,none⟩ (.int .i64 e.b))
   (.slice (some ⟨g,o,none⟩) n cap) n ((l.set i e).flatMap evV):=by
 have hl:=evs_len l
 obtain⟨e0,h0⟩:=zN ((⟨e.thread,l[i].op,l[i].obj,l[i].a,l[i].b⟩:Ev))
 obtain⟨e1,h1⟩:=zN ((⟨e.thread,e.op,l[i].obj,l[i].a,l[i].b⟩:Ev))
 obtain⟨e2,h2⟩:=zN ((⟨e.thread,e.op,e.obj,l[i].a,l[i].b⟩:Ev))
 obtain⟨e3,h3⟩:=zN ((⟨e.thread,e.op,e.obj,e.a,l[i].b⟩:Ev))
 have s0:=set_flat e0 (u:=.int .i64 e.thread) (c:=0) l i hi (by decide) (by rw[←h0];rfl)
 have s1:=set_flat e1 (u:=.int .u8 e.op.toNat) (c:=1) (l.set i e0) i (by simpa using hi) (by decide) (by rw[List.getElem_set_self,←h0,←h1];rfl)
 have s2:=set_flat e2 (u:=.int .i64 e.obj) (c:=2) (l.set i e1) i (by simpa using hi) (by decide) (by rw[List.getElem_set_self,←h1,←h2];rfl)
 have s3:=set_flat e3 (u:=.int .i64 e.a) (c:=3) (l.set i e2) i (by simpa using hi) (by decide) (by rw[List.getElem_set_self,←h2,←h3];rfl)
 have s4:=set_flat e (u:=.int .i64 e.b) (c:=4) (l.set i e3) i (by simpa using hi) (by decide) (by rw[List.getElem_set_self,←h3];rfl)
 simp only[List.set_set]at s0 s1 s2 s3 s4
 have v0:=h.setAt (j:=i*5+0) (by omega) (.int .i64 e.thread)
 rw[s0]at v0
 have v1:=v0.setAt (j:=i*5+1) (by rw[evs_len,List.length_set];omega) (.int .u8 e.op.toNat)
 rw[s1]at v1
 have v2:=v1.setAt (j:=i*5+2) (by rw[evs_len,List.length_set];omega) (.int .i64 e.obj)
 rw[s2]at v2
 have v3:=v2.setAt (j:=i*5+3) (by rw[evs_len,List.length_set];omega) (.int .i64 e.a)
 rw[s3]at v3
 have v4:=v3.setAt (j:=i*5+4) (by rw[evs_len,List.length_set];omega) (.int .i64 e.b)
 rw[s4]at v4
 exact v4
theorem Vec.getEv {n cap g o i:Nat}{w:World}{l:List Ev}(h:Vec 5 w (.slice (some ⟨g,o,none⟩) n cap) n (l.flatMap evV)) (hi:i<l.length) :
  (w.cell? ⟨g,o+i*5,none⟩=some (.int .i64 l[i].thread)∧w.cell? ⟨g,o+i*5+1,none⟩=some (.int .u8 l[i].op.toNat)∧w.cell? ⟨g,o+i*5+2,none⟩=some (.int .i64 l[i].obj)∧w.cell? ⟨g,o+i*5+3,none⟩=some (.int .i64 l[i].a)∧w.cell? ⟨g,o+i*5+4,none⟩=some (.int .i64 l[i].b)) ∧
  (w.frozen? ⟨g,o+i*5,none⟩=false∧w.frozen? ⟨g,o+i*5+1,none⟩=false∧w.frozen? ⟨g,o+i*5+2,none⟩=false∧w.frozen? ⟨g,o+i*5+3,none⟩=false∧w.frozen? ⟨g,o+i*5+4,none⟩=false)∧g<w.heap.size:=by
 have hl:=evs_len l
 obtain⟨hn,⟨h,-⟩|⟨g',o',cap',he,h1,h2,h3,h4,h5,h6⟩⟩:=h
 ·cases h
 obtain⟨⟨rfl,rfl⟩,rfl⟩:(g=g'∧o=o')∧cap=cap':=by simpa using he
 have key:∀q (hq:q<5),(l.flatMap evV)[i*5+q]? = (evV l[i])[q]?:=by
  intro q hq
  have hset:=set_flat l[i] (u:=(evV l[i])[q]'(by simpa [evV] using hq)) (c:=q) l i hi hq (by rw[List.set_getElem_self])
  rw[List.set_getElem_self]at hset
  rw[←hset,List.getElem?_set_self (by omega),List.getElem?_eq_getElem (by simpa [evV] using hq)]
 have cell:∀q (hq:q<5),w.cell? ⟨g,o+i*5+q,none⟩=(evV l[i])[q]?:=by
  intro q hq
  have hj:i*5+q<(l.flatMap evV).length:=by omega
  have:=h6 (i*5+q) hj
  rw[←Nat.add_assoc]at this
  rw[this,←key q hq,List.getElem?_eq_getElem hj]
 have fz:∀q (hq:q<5),w.frozen? ⟨g,o+i*5+q,none⟩=false:=by
  intro q hq
  have:=h5 (i*5+q) (by omega)
  rw[←Nat.add_assoc]at this
  exact this
 exact⟨⟨cell 0 (by decide),cell 1 (by decide),cell 2 (by decide),cell 3 (by decide),cell 4 (by decide)⟩,⟨fz 0 (by decide),fz 1 (by decide),fz 2 (by decide),fz 3 (by decide),fz 4 (by decide)⟩,h3⟩
def DenP (w:World) (r:Int×List Ev×Int) (z:Ending) (w':World):Prop:=∃(n:Int) (a:Option Addr) (m c:Nat) (ok:Bool),z=.returned (.tuple #[.int .i64 n,.slice a m c,.bool ok])∧Nw w w' ∧
 (ok=true→r=(n,r.2.1,0)∧OwnE w w' (.slice a m c) r.2.1)∧(ok=false→r=(0,[],10))
theorem DenP.no {w w':World}{r:Int×List Ev×Int}(h:r=(0,[],10)) (hw:Nw w w'):DenP w r (.returned (.tuple #[.int .i64 0,.slice none 0 0,.bool false])) w':=
 ⟨_,_,_,_,_,rfl,hw,(fun h=>by cases h),fun _=>h⟩
theorem dense_ok {w:World}{v:Value}{u:List UInt8}(hv:Bs w v u) (hl:u.length≤14000000) :
  Calls Tryz.prog 98 #[v] w (DenP w (unpackIn u)):=by
 obtain⟨xa,xc,rfl,hxc,-,hel⟩:=hv.elems
 obtain⟨ul,hul⟩:=zN (u.length)
 have EL:=zH (fun i (hi:i<u.length)=>hel i hi)
 have B1:=zH hv
 have HUL:=zH hul
 obtain⟨R,hR⟩:=zN (unpackIn u)
 rw[hR]
 have HR:=zH hR
 have HGU:=zH (fun (W:World) (v:Value) (hb:Bs W v u) (at_:Int) (h0 : -9223372036854775808≤at_) (h1:at_≤9223372036854775807) (n:Nat) (x e:Int) (hu:getU u at_=(n,x,e))=>rGetUint_ok hb hl at_ h0 h1 hu)
 have HGI:=zH (fun (W:World) (v:Value) (hb:Bs W v u) (at_:Int) (h0 : -9223372036854775808≤at_) (h1:at_≤9223372036854775807) (n x e:Int) (hu:getI u at_=(n,x,e))=>rGetInt_ok hb hl at_ h0 h1 hu)
 rw[hul]at hl hxc B1 ⊢
 have NL:=(Nw.refl w).alloc (.cells #[.int .u8 65,.int .u8 77,.int .u8 68,.int .u8 49] 5 (0,0))
 have M1:Bs (w.alloc (.cells #[.int .u8 65,.int .u8 77,.int .u8 68,.int .u8 49] 5 (0,0))) (.slice (some ⟨w.heap.size,0,none⟩) 4 4) denseS:=rd_lit (f:=u8) w 5 (0,0) denseS _ 4 rfl (by decide) (by decide)
 obtain⟨ma,mcap,hme,-,-,hml⟩:=M1.elems
 have ML:=zH (fun i (hi:i<4)=>hml i hi)
 cases hme
 have NL:=zH NL
 clear hel hml M1 hv hul hR
 go_enter Tryz.func98,Tryz.ntmps98
 go_wp2
 go_loopw [6] (fun iv wr=>∃k:Nat,k≤4∧k≤ul∧iv=.int .i64 k∧u.take k=denseS.take k∧Nw (w.alloc (.cells #[.int .u8 65,.int .u8 77,.int .u8 68,.int .u8 49] 5 (0,0))) wr) (fun iv _=>4-(intOf iv).toNat)
 case atStart=>exact⟨0,by omega,by omega,rfl,rfl,Nw.refl _⟩
 case round =>
  obtain⟨k,hk,hku0,rfl,htk,hw⟩:=hrel
  have HTK:=zH htk
  have HW:=zH hw
  have N2:=zH (NL.out.trans hw)
  clear htk hw
  by_cases hk4:k<4
  ·have q0:decide ((k:Int)<4)=true:=by simp;omega
   have HBAD:Hid (¬ denseS <+: u→R=(0,[],10)):=zH (fun h=>by
    rw[←HR.out]
    unfold unpackIn
    rw[if_pos h])
   obtain⟨mg,mo,hme,hmg,hmc⟩:=ML.out k hk4
   cases hme
   have z1:=HW.out.cell hmc
   rw[Nat.zero_add]at z1
   have hmg':=Nat.lt_of_lt_of_le hmg HW.out.size
   obtain⟨cb,hcb⟩:∃cb:UInt8,cb=denseS[k]'hk4:=⟨_,rfl⟩
   rw[←hcb]at z1
   have HCB:=zH hcb
   clear hmc hmg hcb
   change World.cell? _ _=some (.int .u8 (cb.toNat:Int)) at z1
   by_cases hku:k<ul
   ·obtain⟨ug,uo,rfl,hug,huc⟩:=EL.out k (by rw[HUL.out];exact hku)
    have z2:=((NL.out.trans HW.out).cell huc)
    have hug':=Nat.lt_of_lt_of_le hug (NL.out.trans HW.out).size
    obtain⟨ca,hca⟩:∃ca:UInt8,ca=u[k]'(by rw[HUL.out];exact hku):=⟨_,rfl⟩
    rw[←hca]at z2
    have HCA:=zH hca
    clear huc hug hca
    change World.cell? _ _=some (.int .u8 (ca.toNat:Int)) at z2
    have hd1:decide ((ul:Int)≤(k:Int))=false:=by simp;omega
    have hd2:decide (ul≤k)=false:=by simp;omega
    by_cases hcc:ca=cb
    ·have heq:((ca.toNat:Int)!=(cb.toNat:Int))=false:=by rw[hcc];simp
     have hsnoc:Hid (u.take (k+1)=denseS.take (k+1)):=zH (by
      rw[List.take_add_one,List.take_add_one,HTK.out,List.getElem?_eq_getElem (by rw[HUL.out];exact hku),List.getElem?_eq_getElem (l:=denseS) hk4,←HCA.out,←HCB.out,hcc])
     have hwk:IntKind.i64.wrap ((k:Int)+1)=((k+1:Nat):Int):=by rw[←Int.natCast_one,←Int.natCast_add];exact IntWalk.i64_in _ (by omega)
     clear hcc
     go_upto_region 5 with fail
     go_quiet (fail)
     go_wp2_with fail
     go_roundw
     case rel=>exact⟨k+1,by omega,by omega,by first|rfl|(simp;done)|rw[hwk],hsnoc.out,HW.out.drewN _⟩
     case measure=>simp only[intOf];omega
    ·have hne:((ca.toNat:Int)!=(cb.toNat:Int))=true:=by
      simp only[bne_iff_ne,ne_eq,Int.ofNat_inj]
      exact fun h=>hcc (UInt8.toNat_inj.1 h)
     have r0:=zH (HBAD.out (not_prefix (k:=k) hk4 (.inr ⟨by rw[HUL.out];exact hku,by rw[←HCA.out,←HCB.out];exact hcc⟩)))
     go_upto_region 5 with fail
     go_quiet (fail)
     go_wp2_with fail
     refine bodyPost_ret (v:=.tuple #[.int .i64 0,.slice none 0 0,.bool false]) (by simp[results,Tryz.results98,go_sem]) rfl (DenP.no r0.out (N2.out.drewN _))
   ·have hd1:decide ((ul:Int)≤(k:Int))=true:=by simp;omega
    have hd2:decide (ul≤k)=true:=by simp;omega
    have r0:=zH (HBAD.out (not_prefix (k:=k) hk4 (.inl (by rw[HUL.out];omega))))
    go_upto_region 5 with fail
    go_quiet (fail)
    go_wp2_with fail
    refine bodyPost_ret (v:=.tuple #[.int .i64 0,.slice none 0 0,.bool false]) (by simp[results,Tryz.results98,go_sem]) rfl (DenP.no r0.out (N2.out.drewN _))
  obtain rfl:k=4:=by omega
  have hpre:denseS <+: u:=take_eq_prefix HTK.out rfl (by rw[HUL.out];omega)
  have hR:=HR.out
  unfold unpackIn at hR
  rw[if_neg (by simpa using hpre)]at hR
  have B2:=zH (B1.out.nw N2.out)
  have hno:¬ ((4:Int)<4):=by omega
  clear hpre HR HTK EL ML HW NL hk4 hk
  obtain⟨⟨n1,x1,e1⟩,hg1⟩:=zN (getU u 4)
  have C1:=zH (HGU.out _ _ B2.out 4 (by omega) (by omega) _ _ _ hg1)
  have hf1:=getU_fine (b:=u) (at_:=4)
  rw[hg1]at hf1 hR
  rw[HUL.out]at hf1
  simp only at hf1 hR
  clear hg1
  by_cases c1:e1=0
  case neg =>
   have q1:(e1 !=0)=true:=by simpa using c1
   rw[if_pos (.inl c1)]at hR
   have HR:=zH hR
   clear hR hf1
   go_wp2_with fail
   refine C1.out.mono ?_
   rintro z w3 ⟨rfl,n3⟩
   have N3:=zH (N2.out.trans n3)
   clear n3
   go_wp2
   refine bodyPost_ret (v:=.tuple #[.int .i64 0,.slice none 0 0,.bool false]) (by simp[results,Tryz.results98,go_sem]) rfl (DenP.no HR.out.symm N3.out)
  subst c1
  obtain⟨f1,f2,f3,f4⟩:=hf1 rfl
  by_cases c2:4611686018427387904<n1
  case pos =>
   have q1:decide ((4611686018427387904:Int)<(n1:Int))=true:=by simp;omega
   rw[if_pos (.inr c2)]at hR
   have HR:=zH hR
   clear hR hf1
   go_wp2_with fail
   refine C1.out.mono ?_
   rintro z w3 ⟨rfl,n3⟩
   have N3:=zH (N2.out.trans n3)
   clear n3
   go_wp2
   refine bodyPost_ret (v:=.tuple #[.int .i64 0,.slice none 0 0,.bool false]) (by simp[results,Tryz.results98,go_sem]) rfl (DenP.no HR.out.symm N3.out)
  have q1:decide ((4611686018427387904:Int)<(n1:Int))=false:=by simp;omega
  rw[if_neg (by omega)]at hR
  have hwn1:IntKind.i64.wrap (n1:Int)=(n1:Int):=IntWalk.i64_in _ (by omega)
  obtain⟨⟨n2,x2,e2⟩,hg2⟩:=zN (getU u x1)
  have C2:=zH (fun W (b:Bs W (.slice xa ul xc) u)=>HGU.out _ _ b x1 (by omega) (by omega) _ _ _ hg2)
  have hf2:=getU_fine (b:=u) (at_:=x1)
  rw[hg2]at hf2 hR
  rw[HUL.out]at hf2
  simp only at hf2 hR
  clear hg2 hf1
  by_cases c3:e2=0
  case neg =>
   have q2:(e2 !=0)=true:=by simpa using c3
   rw[if_pos (.inl c3)]at hR
   have HR:=zH hR
   clear hR hf2
   go_wp2_with fail
   refine C1.out.mono ?_
   rintro z w3 ⟨rfl,n3⟩
   have N3:=zH (N2.out.trans n3)
   have B3:=zH (B2.out.nw n3)
   clear n3
   go_wp2_with fail
   refine (C2.out _ B3.out).mono ?_
   rintro z w4 ⟨rfl,n4⟩
   have N4:=zH (N3.out.trans n4)
   clear n4
   go_wp2
   refine bodyPost_ret (v:=.tuple #[.int .i64 0,.slice none 0 0,.bool false]) (by simp[results,Tryz.results98,go_sem]) rfl (DenP.no HR.out.symm N4.out)
  subst c3
  obtain⟨g1,g2,g3,g4⟩:=hf2 rfl
  by_cases c4:n2<1
  case pos =>
   have q2:decide ((n2:Int)<1)=true:=by simp;omega
   rw[if_pos (.inr (.inl c4))]at hR
   have HR:=zH hR
   clear hR hf2
   go_wp2_with fail
   refine C1.out.mono ?_
   rintro z w3 ⟨rfl,n3⟩
   have N3:=zH (N2.out.trans n3)
   have B3:=zH (B2.out.nw n3)
   clear n3
   go_wp2_with fail
   refine (C2.out _ B3.out).mono ?_
   rintro z w4 ⟨rfl,n4⟩
   have N4:=zH (N3.out.trans n4)
   clear n4
   go_wp2
   refine bodyPost_ret (v:=.tuple #[.int .i64 0,.slice none 0 0,.bool false]) (by simp[results,Tryz.results98,go_sem]) rfl (DenP.no HR.out.symm N4.out)
  have q2:decide ((n2:Int)<1)=false:=by simp;omega
  by_cases c5:1048576<n2
  case pos =>
   have q3:decide ((1048576:Int)<(n2:Int))=true:=by simp;omega
   rw[if_pos (.inr (.inr c5))]at hR
   have HR:=zH hR
   clear hR hf2
   go_wp2_with fail
   refine C1.out.mono ?_
   rintro z w3 ⟨rfl,n3⟩
   have N3:=zH (N2.out.trans n3)
   have B3:=zH (B2.out.nw n3)
   clear n3
   go_wp2_with fail
   refine (C2.out _ B3.out).mono ?_
   rintro z w4 ⟨rfl,n4⟩
   have N4:=zH (N3.out.trans n4)
   clear n4
   go_wp2
   refine bodyPost_ret (v:=.tuple #[.int .i64 0,.slice none 0 0,.bool false]) (by simp[results,Tryz.results98,go_sem]) rfl (DenP.no HR.out.symm N4.out)
  have q3:decide ((1048576:Int)<(n2:Int))=false:=by simp;omega
  rw[if_neg (by omega)]at hR
  obtain⟨Rc,hRc⟩:=zN (colsR u cols (List.replicate n2 Ev.zero) x2)
  rw[hRc]at hR
  have HR:=zH hR
  have HRC:=zH hRc
  have RETN:Hid (Rc=none→R=(0,[],10)):=zH (fun h=>by rw[h]at hR;exact hR.symm)
  clear hR hf2 hRc
  go_wp2_with fail
  refine C1.out.mono ?_
  rintro z w3 ⟨rfl,n3⟩
  have N3:=zH (N2.out.trans n3)
  have B3:=zH (B2.out.nw n3)
  clear n3
  go_wp2_with fail
  refine (C2.out _ B3.out).mono ?_
  rintro z w4 ⟨rfl,n4⟩
  have N4:=zH (N3.out.trans n4)
  clear n4
  obtain⟨W5,hmk,nw5,vc5⟩:=makeN w4 n2 (by omega) .u64
  have NW5:=zH (N4.out.trans nw5)
  have VC5:=zH vc5
  have HGE:Hid (w.heap.size≤w4.heap.size):=zH N4.out.size
  clear nw5 vc5 C1 C2 B2 B3 N2 N3 N4
  obtain⟨gg,hgg⟩:=zN (w4.heap.size)
  rw[hgg]at hmk VC5 HGE
  go_wp2
  clear hmk hgg
  have hwl:∀k:Nat,k<5→IntKind.i64.wrap ((k:Int)+1)=((k+1:Nat):Int):=fun k hk=>by rw[←Int.natCast_one,←Int.natCast_add];exact IntWalk.i64_in _ (by omega)
  have HWL:=zH hwl
  clear hwl
  go_loopw [8,12] (fun av cv wr=>∃(c:Nat) (at1:Int) (es1:List Ev),c≤5∧av=.int .i64 at1∧cv=.int .i64 c∧0≤at1∧at1≤ul∧es1.length=n2∧colsR u (cols.drop c) es1 at1=Rc ∧
   Vec 5 wr (.slice (some ⟨gg,0,none⟩) n2 n2) n2 (es1.flatMap evV)∧Nw w wr) (fun _ cv _=>5-(intOf cv).toNat)
  case atStart=>exact⟨0,x2,_,by omega,rfl,rfl,by omega,g3,by simp,HRC.out,VC5.out,NW5.out⟩
  case round =>
   obtain⟨c,at1,es1,hc,rfl,rfl,ha0,ha1,hesl,hr1,hv1,hw1⟩:=hrel
   clear HRC VC5 NW5
   have HRr:=zH hr1
   have HVr:=zH hv1
   have HWr:=zH hw1
   have HESL:=zH hesl
   clear hr1 hv1 hw1 hesl
   by_cases hlt:c<5
   case neg =>
    obtain rfl:c=5:=by omega
    have hno5:¬ ((5:Int)<5):=by omega
    have hR:=HR.out
    have hrr:=HRr.out
    rw[show cols.drop 5=[] from rfl]at hrr
    unfold colsR at hrr
    rw[←hrr,HUL.out]at hR
    simp only at hR
    clear hrr
    by_cases hend:at1<(ul:Int)
    ·have qe:(at1==(ul:Int))=false:=by simp;omega
     rw[if_pos hend]at hR
     have HR:=zH hR
     clear hR
     go_wp2
     refine bodyPost_ret (v:=.tuple #[.int .i64 n1,.slice (some ⟨gg,0,none⟩) n2 n2,.bool false]) (by simp[results,Tryz.results98,go_sem]) rfl ⟨_,_,_,_,_,rfl,HWr.out,(fun h=>by cases h),fun _=>HR.out.symm⟩
    ·have qe:(at1==(ul:Int))=true:=by simp;omega
     rw[if_neg hend]at hR
     have HR:=zH hR
     clear hR
     go_wp2
     refine bodyPost_ret (v:=.tuple #[.int .i64 n1,.slice (some ⟨gg,0,none⟩) n2 n2,.bool true]) (by simp[results,Tryz.results98,go_sem]) rfl ⟨_,_,_,_,_,rfl,HWr.out,(fun _=>⟨by rw[←HR.out],?_⟩),fun h=>by cases h⟩
     rw[←HR.out]
     refine⟨by show Vec 5 wr _ es1.length _;rw[HESL.out];exact HVr.out,HWr.out,fun g hg=>?_⟩
     obtain rfl:gg=g:=by simpa [Value.ownBlock] using hg
     exact HGE.out
   have qc:decide ((c:Int)<5)=true:=by simp;omega
   have hwc:=HWL.out c hlt
   have hun:=HRr.out
   rw[cols_drop hlt]at hun
   unfold colsR at hun
   rw[HESL.out]at hun
   obtain⟨set,hset⟩:=zN (setC c)
   obtain⟨ok,hok⟩:=zN (okC c)
   rw[hset,hok]at hun
   obtain⟨R1,hR1⟩:=zN (colR u ok n2 true 0 0 at1 [])
   rw[hR1]at hun
   have HUN:=zH hun
   have HR1:=zH hR1
   have HSET:=zH hset
   have HOK:=zH hok
   have RETC:Hid (R1=none→R=(0,[],10)):=zH (fun h=>by rw[h]at hun;exact RETN.out hun.symm)
   clear hun hR1 HRr hset hok
   go_wp2
   go_loopw [8,13,14,15] (fun av nv lv iv wr=>∃(at2 n0 l0:Int) (acc:List Int) (i:Nat),av=.int .i64 at2∧nv=.int .i64 n0∧lv=.int .i64 l0∧iv=.int .i64 i∧acc.length=i∧i≤n2∧0≤at2∧at2≤ul∧in64 n0∧colR u ok (n2-i) (decide (i=0)) l0 n0 at2 acc=R1 ∧
    Vec 5 wr (.slice (some ⟨gg,0,none⟩) n2 n2) n2 ((halfE set es1 acc).flatMap evV)∧Nw w wr) (fun _ _ _ iv _=>n2-(intOf iv).toNat)
   case atStart=>exact⟨at1,0,0,[],0,rfl,rfl,rfl,rfl,rfl,Nat.zero_le _,ha0,ha1,⟨by decide,by decide⟩,HR1.out,by simpa [halfE] using HVr.out,HWr.out⟩
   case round =>
    obtain⟨at2,n0,l0,acc,i,rfl,rfl,rfl,rfl,hacc,hi,hb0,hb1,hn0,hr2,hv2,hw2⟩:=hrel
    clear HR1 HVr HWr
    have HR2:=zH hr2
    have HV2:=zH hv2
    have HW2:=zH hw2
    have HACC:=zH hacc
    have HN0:=zH hn0
    clear hr2 hv2 hw2 hacc hn0
    by_cases hin:i<n2
    case neg =>
     obtain rfl:i=n2:=by omega
     have qi:decide ((i:Int)<(i:Int))=false:=by simp
     have hr:=HR2.out
     rw[Nat.sub_self,colR_zero]at hr
     have hun:=HUN.out
     rw[←hr]at hun
     simp only at hun
     have hlz:(List.zipWith set es1 acc).length=i:=by rw[List.length_zipWith,HESL.out,HACC.out];omega
     have HF:=zH (halfE_full set es1 acc (by rw[HACC.out,HESL.out]))
     have HUN2:=zH hun
     have HLZ:=zH hlz
     clear hr hun hlz
     go_wp2
     go_roundw
     case rel=>exact⟨c+1,at2,List.zipWith set es1 acc,by omega,rfl,by first|rfl|(simp;done)|rw[hwc],hb0,hb1,HLZ.out,HUN2.out,by rw[←HF.out];exact HV2.out,HW2.out⟩
     case measure=>simp only[intOf];omega
    have qi:decide ((i:Int)<(n2:Int))=true:=by simp;omega
    have B2:=zH (B1.out.nw HW2.out)
    obtain⟨⟨d,p1,e1⟩,hgi⟩:=zN (getI u at2)
    have C1:=zH (HGI.out _ _ B2.out at2 (by omega) (by omega) _ _ _ hgi)
    have hun:=HR2.out
    unfold colR at hun
    rw[if_neg (by omega),hgi]at hun
    simp only at hun
    have hfi:=getI_fine (b:=u) (at_:=at2)
    rw[hgi,HUL.out]at hfi
    simp only at hfi
    have hdin:=getI_in (b:=u) (at_:=at2)
    rw[hgi]at hdin
    have HDIN:=zH hdin
    clear HR2 hgi hdin
    by_cases d1:e1=0
    case neg =>
     have q5:(e1 !=0)=true:=by simpa using d1
     rw[if_pos d1]at hun
     have HRN:=zH (RETC.out hun.symm)
     clear hfi hun
     go_wp2_with fail
     refine C1.out.mono ?_
     rintro z w5 ⟨rfl,n5⟩
     have N5:=zH (HW2.out.trans n5)
     clear n5
     go_wp2
     refine bodyPost_ret (v:=.tuple #[.int .i64 0,.slice none 0 0,.bool false]) (by simp[results,Tryz.results98,go_sem]) rfl (DenP.no HRN.out N5.out)
    subst d1
    rw[if_neg (by simp)]at hun
    obtain⟨i1,i2,i3⟩:=hfi rfl
    clear hfi
    obtain⟨⟨run,p2,e2⟩,hgu⟩:=zN (getU u p1)
    have C2:=zH (fun W (b:Bs W (.slice xa ul xc) u)=>HGU.out _ _ b p1 (by omega) (by omega) _ _ _ hgu)
    rw[hgu]at hun
    simp only at hun
    have hfu:=getU_fine (b:=u) (at_:=p1)
    rw[hgu,HUL.out]at hfu
    simp only at hfu
    clear hgu
    by_cases d5:0<i∧d=l0
    case pos =>
     obtain⟨d6,d7⟩:=d5
     have q5:decide ((0:Int)<(i:Int))=true:=by simp;omega
     have q6:(d==l0)=true:=by simpa using d7
     rw[dif_pos (.inr (.inr (.inr ⟨by simp;omega,d7⟩)))]at hun
     have HRN:=zH (RETC.out hun.symm)
     clear hfu hun d7
     go_wp2_with fail
     refine C1.out.mono ?_
     rintro z w5 ⟨rfl,n5⟩
     have N5:=zH (HW2.out.trans n5)
     clear n5
     go_wp2
     refine bodyPost_ret (v:=.tuple #[.int .i64 0,.slice none 0 0,.bool false]) (by simp[results,Tryz.results98,go_sem]) rfl (DenP.no HRN.out N5.out)
    have q5:((i=0)∨(0<i∧(d==l0)=false)):=by
     rcases Nat.eq_zero_or_pos i with h|h
     ·exact .inl h
     ·exact .inr ⟨h,by simpa using fun h2=>d5 ⟨h,h2⟩⟩
    have Q5:=zH q5
    have HD5:=zH d5
    clear q5 d5
    go_wp2_with fail
    refine C1.out.mono ?_
    rintro z w5 ⟨rfl,n5⟩
    have N5:=zH (HW2.out.trans n5)
    have V5:=zH (HV2.out.nw n5)
    have B5:=zH (B2.out.nw n5)
    clear n5 C1 B2 HW2 HV2
    have C2:=zH (C2.out _ B5.out)
    go_upto_region 22 with fail
    go_cut [98] (fun t wx=>t=.bool false∧wx=w5)
    case first =>
     rcases Q5.out with h|⟨h,hx⟩
     ·subst h
      go_wp2_with fail
      go_meet
      case rel=>exact⟨by simp,rfl⟩
     ·have q3:decide ((0:Int)<(i:Int))=true:=by simp;omega
      go_wp2_with fail
      go_meet
      case rel=>exact⟨by simp,rfl⟩
    case rest =>
     obtain⟨rfl,rfl⟩:=hcut
     by_cases d2:e2=0
     case neg =>
      have q5:(e2 !=0)=true:=by simpa using d2
      rw[dif_pos (.inl d2)]at hun
      have HRN:=zH (RETC.out hun.symm)
      clear hfu hun
      go_wp2_with fail
      refine C2.out.mono ?_
      rintro z w6 ⟨rfl,n6⟩
      have N6:=zH (N5.out.trans n6)
      clear n6
      go_wp2
      refine bodyPost_ret (v:=.tuple #[.int .i64 0,.slice none 0 0,.bool false]) (by simp[results,Tryz.results98,go_sem]) rfl (DenP.no HRN.out N6.out)
     subst d2
     obtain⟨j1,j2,j3,j4⟩:=hfu rfl
     clear hfu
     by_cases d3:run<1
     case pos =>
      have q5:decide ((run:Int)<1)=true:=by simp;omega
      rw[dif_pos (.inr (.inl d3))]at hun
      have HRN:=zH (RETC.out hun.symm)
      clear hun
      go_wp2_with fail
      refine C2.out.mono ?_
      rintro z w6 ⟨rfl,n6⟩
      have N6:=zH (N5.out.trans n6)
      clear n6
      go_wp2
      refine bodyPost_ret (v:=.tuple #[.int .i64 0,.slice none 0 0,.bool false]) (by simp[results,Tryz.results98,go_sem]) rfl (DenP.no HRN.out N6.out)
     have q5:decide ((run:Int)<1)=false:=by simp;omega
     have hwr:IntKind.u64.wrap ((n2:Int)-(i:Int))=(n2:Int)-(i:Int):=IntWalk.u64_in _ (by omega)
     have hwr2:IntKind.i64.wrap ((n2:Int)-(i:Int))=(n2:Int)-(i:Int):=IntWalk.i64_in _ (by omega)
     by_cases d4:n2-i<run
     case pos =>
      rw[dif_pos (.inr (.inr (.inl d4)))]at hun
      have q6:decide ((n2:Int)-(i:Int)<(run:Int))=true:=by simp;omega
      have HRN:=zH (RETC.out hun.symm)
      clear hun
      go_wp2_with fail
      refine C2.out.mono ?_
      rintro z w6 ⟨rfl,n6⟩
      have N6:=zH (N5.out.trans n6)
      clear n6
      go_wp2
      refine bodyPost_ret (v:=.tuple #[.int .i64 0,.slice none 0 0,.bool false]) (by simp[results,Tryz.results98,go_sem]) rfl (DenP.no HRN.out N6.out)
     have q6:decide ((n2:Int)-(i:Int)<(run:Int))=false:=by simp;omega
     rw[dif_neg (by
      rintro (h|h|h|h)
      ·exact h rfl
      ·exact d3 h
      ·exact d4 h
      ·exact HD5.out ⟨by have:=of_decide_eq_false h.1;omega,h.2⟩)]at hun
     have HUN3:=zH hun
     clear hun HD5 Q5
     have hrun:i+run≤n2:=by omega
     go_wp2_with fail
     refine C2.out.mono ?_
     rintro z w6 ⟨rfl,n6⟩
     have N6:=zH (N5.out.trans n6)
     have V6:=zH (V5.out.nw n6)
     clear n6 N5 V5 B5 C2
     go_wp2
     go_loopw [13,15,21] (fun nv iv kv wq=>∃(j:Nat) (n3:Int),j≤run∧kv=.int .u64 j∧nv=.int .i64 n3∧lastD n0 (sums n0 (List.replicate j d))=n3∧iv=.int .i64 (i+j:Nat)∧(sums n0 (List.replicate j d)).all ok=true∧in64 n3 ∧
      Vec 5 wq (.slice (some ⟨gg,0,none⟩) n2 n2) n2 ((halfE set es1 (acc++sums n0 (List.replicate j d))).flatMap evV)∧Nw w wq) (fun _ _ kv _=>run-(intOf kv).toNat)
     case atStart=>exact⟨0,n0,Nat.zero_le _,rfl,rfl,by simp[sums,lastD],by simp,by simp[sums],HN0.out,by simpa [sums] using V6.out,N6.out⟩
     case round =>
      obtain⟨j,n3,hj,rfl,rfl,hn3,rfl,hall,hin3,hs2,hw2⟩:=hrel
      clear V6 N6
      have HN3:=zH hn3
      have HIN3:=zH hin3
      have HS:=zH hs2
      have HW:=zH hw2
      have HALL:=zH hall
      clear hs2 hw2 hall hn3 hin3
      by_cases hjr:j<run
      case neg =>
       obtain rfl:j=run:=by omega
       have hr:=HUN3.out
       rw[if_neg (by rw[HALL.out];simp)]at hr
       have hal:(acc++sums n0 (List.replicate j d)).length=i+j:=by rw[List.length_append,HACC.out,sums_len,List.length_replicate]
       have HAL:=zH hal
       have HRX:=zH hr
       have qj:decide ((j:Int)<(j:Int))=false:=by simp
       clear hal hr
       go_wp2
       go_roundw
       case rel =>
        refine⟨p2,n3,d,acc++sums n0 (List.replicate j d),i+j,rfl,rfl,rfl,rfl,HAL.out,by omega,by omega,by omega,HIN3.out,?_,HS.out,HW.out⟩
        rw[show n2-(i+j)=n2-i-j by omega,show decide (i+j=0)=false by simp;omega,←HN3.out]
        exact HRX.out
       case measure=>simp only[intOf];omega
      have qj:decide ((j:Int)<(run:Int))=true:=by simp;omega
      obtain⟨A,hA⟩:=zN (acc++sums n0 (List.replicate j d))
      obtain⟨q,hq⟩:=zN (i+j)
      have hlen:A.length=q:=by rw[←hA,←hq,List.length_append,HACC.out,sums_len,List.length_replicate]
      rw[hA]at HS
      rw[hq]
      obtain⟨v,hv⟩:=zN (w64 (n3+d))
      have hvin:in64 v:=by rw[←hv];exact w64_in _
      have SU:=sum_u64 n3 d
      rw[hv]at SU
      have hsn:sums n0 (List.replicate (j+1) d)=sums n0 (List.replicate j d)++[v]:=by rw[replicate_sums,HN3.out,hv]
      have hA2:acc++sums n0 (List.replicate (j+1) d)=A++[v]:=by rw[hsn,←List.append_assoc,hA]
      have hlast:lastD n0 (sums n0 (List.replicate (j+1) d))=v:=by rw[hsn,lastD_snoc]
      have hq2:q<n2:=by omega
      obtain⟨hl,hset⟩:=halfE_snoc set es1 A v (by rw[hlen,HESL.out];omega)
      obtain⟨H,hH⟩:=zN (halfE set es1 A)
      have hHl:H.length=n2:=by rw[←hH,halfE_len _ _ _ (by rw[hlen,HESL.out];omega),HESL.out]
      simp only[hH,hlen]at hl hset
      rw[hH]at HS
      obtain⟨⟨c0,c1,c2,c3,c4⟩,-,hgl⟩:=Vec.getEv HS.out (i:=q) hl
      obtain⟨e,he⟩:=zN (H[q]'hl)
      rw[he]at c0 c1 c2 c3 c4 hset
      rw[Nat.zero_add]at c0 c1 c2 c3 c4
      have HSN:=zH hsn
      have HA2:=zH hA2
      have HLAST:=zH hlast
      have HST:=zH hset
      have HVIN:=zH hvin
      have HQ:=zH hq
      have HQL:=zH hl
      have hq0:(0:Int)≤(q:Int):=by omega
      have hq1:(q:Int)<(n2:Int):=by omega
      clear hsn hA2 hlast hset hvin hA hH hHl hlen hv he
      obtain⟨tb,htb⟩:=zN (decide (c=1∧(v<0∨255<v)))
      have hokv:ok v = !tb:=by rw[←HOK.out,okC_iff,htb]
      have HTB:=zH htb
      have HOKV:=zH hokv
      clear hokv htb
      go_upto_region 31 with fail
      go_cut [141] (fun t wx=>t=.bool tb∧wx=wr)
      case first =>
       by_cases h1:c=1
       ·have qq:((c:Int)==1)=true:=by simp;omega
        have HH1:=zH h1
        clear h1
        by_cases h2:v<0
        ·have q7:decide (v<0)=true:=by simpa using h2
         have ht:tb=true:=by rw[←HTB.out];simp[HH1.out,h2]
         subst ht
         go_wp2_with fail
         go_meet
         case rel=>exact⟨rfl,rfl⟩
        ·have q7:decide (v<0)=false:=by simpa using h2
         by_cases h3:255<v
         ·have q8:decide (255<v)=true:=by simpa using h3
          have ht:tb=true:=by rw[←HTB.out];simp[HH1.out,h3]
          subst ht
          go_wp2_with fail
          go_meet
          case rel=>exact⟨rfl,rfl⟩
         ·have q8:decide (255<v)=false:=by simpa using h3
          have ht:tb=false:=by rw[←HTB.out];simp[HH1.out];omega
          subst ht
          go_wp2_with fail
          go_meet
          case rel=>exact⟨rfl,rfl⟩
       ·have qq:((c:Int)==1)=false:=by simp;omega
        have ht:tb=false:=by rw[←HTB.out];simp[h1]
        subst ht
        go_wp2_with fail
        go_meet
        case rel=>exact⟨rfl,rfl⟩
      case rest =>
       obtain⟨rfl,rfl⟩:=hcut
       cases tb
       case true =>
        have hr:=HUN3.out
        rw[if_pos (by
         have h1:run=(j+1)+(run-(j+1)):=by omega
         rw[h1,←List.replicate_append_replicate,sums_append,List.all_append,HSN.out,List.all_append]
         simp[HOKV.out])]at hr
        have HRN:=zH (RETC.out hr.symm)
        clear hr
        go_wp2
        refine bodyPost_ret (v:=.tuple #[.int .i64 0,.slice none 0 0,.bool false]) (by simp[results,Tryz.results98,go_sem]) rfl (DenP.no HRN.out HW.out)
       have h8:c=1→0≤v∧v≤255:=fun h1=>by
        have:=HTB.out
        rw[decide_eq_false_iff_not]at this
        omega
       have CW:=zH (fun W=>dWith_ok W e c hlt v HVIN.out h8)
       rw[HSET.out]at CW
       obtain⟨E,hE⟩:=zN (set e v)
       rw[hE]at CW HST
       unfold evV at CW
       clear hE h8
       go_wp2_with fail
       refine (CW.out _).mono ?_
       rintro z w8 ⟨rfl,n8⟩
       have hs8:=HS.out.nw n8
       obtain⟨⟨b0,b1,b2,b3,b4⟩,⟨y0,y1,y2,y3,y4⟩,hg8⟩:=Vec.getEv hs8 (i:=q) HQL.out
       rw[Nat.zero_add]at b0 b1 b2 b3 b4 y0 y1 y2 y3 y4
       have v9:=Vec.setEv hs8 HQL.out E
       rw[HST.out,Nat.zero_add]at v9
       have V9:=zH v9
       have N9:Hid (Nw w (((((w8.setCell ⟨gg,q*5,none⟩ (.int .i64 E.thread)).setCell ⟨gg,q*5+1,none⟩ (.int .u8 E.op.toNat)).setCell ⟨gg,q*5+2,none⟩ (.int .i64 E.obj)).setCell ⟨gg,q*5+3,none⟩ (.int .i64 E.a)).setCell ⟨gg,q*5+4,none⟩ (.int .i64 E.b))):=zH (by
        have hh:gg<w.heap.size→False:=fun h=>by have:=HGE.out;omega
        exact (((((HW.out.trans n8).setCell (fun h=>hh h) _).setCell (fun h=>hh h) _).setCell (fun h=>hh h) _).setCell (fun h=>hh h) _).setCell (fun h=>hh h) _)
       clear hs8 n8 v9 c0 c1 c2 c3 c4 CW
       have hwq:IntKind.i64.wrap ((q:Int)+1)=((q+1:Nat):Int):=by rw[←Int.natCast_one,←Int.natCast_add];exact IntWalk.i64_in _ (by omega)
       have hwj:IntKind.u64.wrap ((j:Int)+1)=((j+1:Nat):Int):=by rw[←Int.natCast_one,←Int.natCast_add];exact IntWalk.u64_in _ (by omega)
       go_wp2_with fail
       go_roundw
       case rel =>
        refine⟨j+1,v,by omega,by first|rfl|(simp;done)|rw[hwj]|go_num,rfl,HLAST.out,by rw[←HQ.out];first|rfl|(simp;done)|go_num,by rw[HSN.out,List.all_append,HALL.out];simp[HOKV.out],HVIN.out,by rw[HA2.out];exact V9.out,N9.out⟩
       case measure=>simp only[intOf];omega
theorem dUnpack_ok {w:World}{v:Value}{b:List UInt8}(hv:Bs w v b) (hb:b.length≤14000000) :
  Calls Tryz.prog 47 #[v] w (UnpP w (unpackB b)):=by
 obtain⟨⟨u,e0⟩,hu⟩:=zN (unsealB b)
 have C0:=zH (rUnseal_ok hv hb hu)
 have hr:unpackB b=if e0≠0 then (0,[],e0) else unpackIn u:=by unfold unpackB;rw[hu]
 have hul:=unsealB_len (b:=b)
 rw[hu]at hul
 simp only at hul
 rw[hr]
 obtain⟨av,vc,rfl,-,-,-⟩:=hv.elems
 clear hu hr hv
 by_cases c0:e0=0
 case neg =>
  have q0:(e0 !=0)=true:=by simpa using c0
  rw[if_pos c0]
  go_enter Tryz.func47,Tryz.ntmps47
  go_wp2_with fail
  refine C0.out.mono ?_
  rintro z w1 ⟨v1,rfl,b1,n1⟩
  go_wp2
  refine bodyPost_ret (v:=.tuple #[.int .i64 0,.slice none 0 0,.int .i64 e0]) (by simp[results,Tryz.results47,go_sem]) rfl (UnpP.none rfl n1)
 subst c0
 rw[if_neg (by simp)]
 have hul:=hul rfl
 obtain⟨R,hR⟩:=zN (unpackIn u)
 rw[hR]
 have HR:=zH hR
 clear hR
 go_enter Tryz.func47,Tryz.ntmps47
 go_wp2_with fail
 refine C0.out.mono ?_
 rintro z w1 ⟨v1,rfl,b1,n1⟩
 have D:=dense_ok b1 (by omega)
 rw[HR.out]at D
 obtain⟨ua,uc,rfl,-⟩:=b1.len
 have D:=zH D
 have N1:=zH n1
 clear b1 n1 hul
 go_wp2_with fail
 refine D.out.mono ?_
 rintro z w2 ⟨n,a,m,c,ok,rfl,n2,o1,o2⟩
 have N2:=zH (N1.out.trans n2)
 have O1:=zH o1
 have O2:=zH o2
 clear n2 o1 o2 D
 cases ok
 case false =>
  go_wp2
  refine bodyPost_ret (v:=.tuple #[.int .i64 0,.slice none 0 0,.int .i64 10]) (by simp[results,Tryz.results47,go_sem]) rfl (UnpP.none (O2.out (by first|rfl|trivial)) N2.out)
 case true =>
  go_wp2
  refine bodyPost_ret (v:=.tuple #[.int .i64 n,.slice a m c,.int .i64 0]) (by simp[results,Tryz.results47,go_sem]) rfl ?_
  obtain⟨h1,h2⟩:=O1.out (by first|rfl|trivial)
  refine⟨_,?_,OwnE.from N1.out h2⟩
  rw[h1]
end Go.Proofs.YtkbenkldfehhlaaGreatDoor
