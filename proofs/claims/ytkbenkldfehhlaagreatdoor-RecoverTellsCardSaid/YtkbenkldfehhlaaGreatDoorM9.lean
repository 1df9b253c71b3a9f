/-
  Texts merged by a program of this claim's: EventB, ReadB, HasX, LogA.
-/
import Derived.Test.YtkbenkldfehhlaaGreatDoorM8
import Derived.Test.YtkbenkldfehhlaaGreatDoorM7
namespace Go.Proofs.YtkbenkldfehhlaaGreatDoor
open Go Go.RowKit Go.Sort
set_option maxRecDepth 100000
set_option maxHeartbeats 1600000
structure Evs (w:World) (v:Value) (l:List Ev):Prop where
 src:SrcV 5 w v l.length (l.flatMap evV)
 ok:∀e∈l,e.Ok
theorem flat_cell:∀(l:List Ev) (i:Nat) (h:i<l.length) (j:Nat) (_hj:j<5),(l.flatMap evV)[i*5+j]? = (evV l[i])[j]?
 |e::l,0,_,j,hj=>by
  rw[List.flatMap_cons,Nat.zero_mul,Nat.zero_add,List.getElem?_append_left (by simpa [evV] using hj)];rfl
 |e::l,i+1,h,j,hj=>by
  have ih:=flat_cell l i (by simpa using h) j hj
  rw[List.flatMap_cons,List.getElem?_append_right (by simp[evV];omega),show (i+1)*5+j-(evV e).length=i*5+j by simp[evV];omega,ih]
  rfl
theorem Evs.nw {w w':World}{v:Value}{l:List Ev}(h:Evs w v l) (hw:Nw w w'):Evs w' v l:=⟨h.src.nw hw,h.ok⟩
theorem Evs.elem {w:World}{v:Value}{l:List Ev}(h:Evs w v l):∃a cap,v=.slice a l.length cap∧l.length≤maxLen∧∀i (hi:i<l.length),∃g o,a=some ⟨g,o,none⟩∧g<w.heap.size ∧
  w.cell? ⟨g,o+i*5,none⟩=some (.int .i64 l[i].thread)∧w.cell? ⟨g,o+i*5+1,none⟩=some (.int .u8 l[i].op.toNat)∧w.cell? ⟨g,o+i*5+2,none⟩=some (.int .i64 l[i].obj) ∧
  w.cell? ⟨g,o+i*5+3,none⟩=some (.int .i64 l[i].a)∧w.cell? ⟨g,o+i*5+4,none⟩=some (.int .i64 l[i].b):=by
 obtain⟨⟨h0,⟨a,rfl,hn⟩|⟨g,o,cap,rfl,h1,h2,h3,h4⟩⟩,-⟩:=h
 ·exact⟨a,0,by rw[hn],by simp[hn],fun i hi=>by omega⟩
 ·refine⟨_,cap,rfl,by omega,fun i hi=>⟨g,o,rfl,h3,?_⟩⟩
  have key:∀j (hj:j<5),w.cell? ⟨g,o+i*5+j,none⟩=(evV l[i])[j]?:=fun j hj=>by
   have e:=flat_cell l i hi j hj
   have hlt:i*5+j<(l.flatMap evV).length:=by rw[h0];omega
   have:=h4 (i*5+j) hlt
   rw[←Nat.add_assoc]at this
   rw[this,←e,List.getElem?_eq_getElem hlt]
  refine⟨key 0 (by omega),key 1 (by omega),key 2 (by omega),key 3 (by omega),key 4 (by omega)⟩
theorem heap_set5 {w1:World}{p:Nat}{a0 b0 c0 d0 e0:Value}{t:TypeId}(h:w1.heap[p]? = some (.cells #[a0,b0,c0,d0,e0] t (0,0))) (a b c d e:Value) :
  (((((w1.setCell ⟨p,0,none⟩ a).setCell ⟨p,1,none⟩ b).setCell ⟨p,2,none⟩ c).setCell ⟨p,3,none⟩ d).setCell ⟨p,4,none⟩ e).heap[p]? = some (.cells #[a,b,c,d,e] t (0,0)):=by
 have:=heap_setCell_at (heap_setCell_at (heap_setCell_at (heap_setCell_at (heap_setCell_at h 0 a) 1 b) 2 c) 3 d) 4 e
 simpa using this
theorem only_set5 (w1:World) (p:Nat) (a b c d e:Value):Only (fun k=>k=p) w1 (((((w1.setCell ⟨p,0,none⟩ a).setCell ⟨p,1,none⟩ b).setCell ⟨p,2,none⟩ c).setCell ⟨p,3,none⟩ d).setCell ⟨p,4,none⟩ e):=
by
 refine Only.setCell (S:=fun k=>k=p) (p:=⟨p,4,none⟩) ?_ (fun _=>rfl) e
 refine Only.setCell (S:=fun k=>k=p) (p:=⟨p,3,none⟩) ?_ (fun _=>rfl) d
 refine Only.setCell (S:=fun k=>k=p) (p:=⟨p,2,none⟩) ?_ (fun _=>rfl) c
 refine Only.setCell (S:=fun k=>k=p) (p:=⟨p,1,none⟩) ?_ (fun _=>rfl) b
 exact Only.setCell (S:=fun k=>k=p) (p:=⟨p,0,none⟩) (Only.refl w1) (fun _=>rfl) a
theorem evV_cells {w:World}{p:Nat}{h:Ev}{t:TypeId}(hb:w.heap[p]? = some (.cells (evV h).toArray t (0,0))) :
  w.cell? ⟨p,0,none⟩=some (.int .i64 h.thread)∧w.cell? ⟨p,1,none⟩=some (.int .u8 h.op.toNat)∧w.cell? ⟨p,2,none⟩=some (.int .i64 h.obj)∧w.cell? ⟨p,3,none⟩=some (.int .i64 h.a)∧w.cell? ⟨p,4,none⟩=some (.int .i64 h.b) ∧
  ∀i,w.frozen? ⟨p,i,none⟩=false:=by
 simp[World.cell?,World.frozen?,hb,evV]
theorem lastE_ok {h:Ev}{l:List Ev}(hh:h.Ok) (hl:∀e∈l,e.Ok):(lastE h l).Ok:=by
 unfold lastE
 rw[List.getLastD_eq_getLast?]
 cases hc:l.getLast? with
 |none=>exact hh
 |some e=>exact hl e (List.mem_of_getLast? hc)
theorem zero_ok:Ev.zero.Ok:=⟨by unfold in64 Ev.zero;simp,by unfold in64 Ev.zero;simp,by unfold in64 Ev.zero;simp,by unfold in64 Ev.zero;simp⟩
theorem Frame_ok {w:World}{v:Value}{l:List Ev}(hv:Evs w v l) (h0:l.length≠0) (h1:l.length≤4096) :
  Calls Tryz.prog 72 #[v] w fun e w'=>∃v',e=.returned (.tuple #[v',.int .i64 0])∧Vec 1 w' v' (frmB l).length ((frmB l).map u8)∧Nw w w'∧∀g,v'.ownBlock=some g→w.heap.size≤g:=by
 obtain⟨a,cap,rfl,-,hel⟩:=hv.elem
 have HE:=zH hel
 have HOK:=zH hv.ok
 clear hel hv
 obtain⟨n,hn⟩:=zN (l.length)
 rw[hn]at h0 h1 ⊢
 have HN:=zH hn
 clear hn
 go_enter Tryz.func72,Tryz.ntmps72
 go_wp2_with fail
 refine (Uint_ok (l:=[]) Vec.nil n (by omega) (by simp)).mono ?_
 rintro e w1 ⟨v1,rfl,q1,q2,q3⟩
 have G1:Hid (Vec 1 w1 v1 (uintB n).length ((uintB n).map u8)∧Nw w w1∧∀g,v1.ownBlock=some g→w.heap.size≤g∧g<w1.heap.size):=zH (by
  refine⟨by simpa using q1,q2.mono (fun k _ hk=>by cases hk),fun g hg=>⟨?_,q1.lt g hg⟩⟩
  rcases q3 with h|h
  ·rw[h]at hg;cases hg
  ·exact h g hg)
 clear q1 q2 q3
 go_wp2
 go_loopw [4,22] (fun b i wr=>∃(k:Nat),k≤n∧i=.int .i64 k∧Vec 1 wr b (uintB n++putL Ev.zero (l.take k)).length ((uintB n++putL Ev.zero (l.take k)).map u8)∧Nw w wr∧(∀g,b.ownBlock=some g→w.heap.size≤g∧g≠w1.heap.size) ∧
  wr.heap[w1.heap.size]? = some (.cells (evV (lastE Ev.zero (l.take k))).toArray 87 (0,0))) (fun _ i _=>n-(intOf i).toNat)
 case atStart =>
  refine⟨0,by omega,rfl,?_,G1.out.2.1.alloc _,fun g hg=>?_,?_⟩
  ·have:=G1.out.1.nw ((Nw.refl w1).alloc (.cells #[.int .i64 0,.int .u8 0,.int .i64 0,.int .i64 0,.int .i64 0] 87 (0,0)))
   simpa [putL] using this
  ·have:=G1.out.2.2 g hg;omega
  ·simpa [lastE,evV,Ev.zero] using heap_alloc_new w1 (.cells #[.int .i64 0,.int .u8 0,.int .i64 0,.int .i64 0,.int .i64 0] 87 (0,0))
 case round =>
  obtain⟨k,hk,rfl,hb,hw,hf,hbox⟩:=hrel
  have hlen:(uintB n++putL Ev.zero (l.take k)).length≤41*k+10:=by
   have h1:=putL_len (l.take k) Ev.zero
   have h2:=uintB_len n 10 (by omega) (Nat.lt_trans (show n<2 ^ 64 by omega) (by decide))
   rw[List.length_append]
   have h3:(l.take k).length≤k:=by simp;omega
   omega
  by_cases hlt:k<n
  ·have hkl:k<l.length:=by rw[HN.out];exact hlt
   obtain⟨g,o,rfl,hg,c0,c1,c2,c3,c4⟩:=HE.out k hkl
   have d0:=hw.cell c0
   have d1:=hw.cell c1
   have d2:=hw.cell c2
   have d3:=hw.cell c3
   have d4:=hw.cell c4
   have hg':=Nat.lt_of_lt_of_le hg hw.size
   have hsnoc:l.take (k+1)=l.take k++[l[k]]:=List.take_succ_eq_append_getElem hkl
   have HB1:Hid (uintB n++putL Ev.zero (l.take (k+1))=(uintB n++putL Ev.zero (l.take k))++putE (lastE Ev.zero (l.take k)) l[k]):=zH (by rw[hsnoc,putL_snoc,List.append_assoc])
   have HB2:Hid (lastE Ev.zero (l.take (k+1))=l[k]):=zH (by rw[hsnoc];unfold lastE;rw[List.getLastD_eq_getLast?,List.getLast?_append];rfl)
   have HO1:Hid (lastE Ev.zero (l.take k)).Ok:=zH (lastE_ok zero_ok fun e he=>HOK.out e (List.mem_of_mem_take he))
   have HO2:Hid (l[k]:Ev).Ok:=zH (HOK.out _ (List.getElem_mem hkl))
   obtain⟨b2,hb2⟩:∃b2,b2=uintB n++putL Ev.zero (l.take (k+1)):=⟨_,rfl⟩
   have HBX:=zH hb2
   rw[←hb2]at HB1
   clear hb2
   generalize uintB n++putL Ev.zero (l.take k)=b1 at hb hlen HB1
   generalize lastE Ev.zero (l.take k)=h1 at hbox HB1 HO1
   obtain⟨x,hx⟩:∃x,x=lastE Ev.zero (l.take (k+1)):=⟨_,rfl⟩
   have HLX:=zH hx
   have hx2:(l[k]:Ev)=x:=by rw[hx,HB2.out]
   rw[hx2]at HB1 HO2 d0 d1 d2 d3 d4
   clear HB2 hx2 hx c0 c1 c2 c3 c4 hsnoc hkl hg
   obtain⟨x0,x1,x2,x3,x4,-⟩:=evV_cells hbox
   have hbl:w1.heap.size<wr.heap.size:=lt_of_block hbox
   have hown:=hb.lt
   obtain⟨sa,sc,rfl,-⟩:=hb.len
   have V1:=zH (And.intro hb (And.intro hw (And.intro hf hbox)))
   have OW:=zH hown
   clear hb hw hf hbox hown
   have LN:=zH hlen
   clear hlen
   go_wp2_with fail
   have hn1:=(Nw.refl wr).alloc (.cells (evV x).toArray 87 (0,0))
   refine (Put_ok (V1.out.1.nw hn1) h1 x HO1.out HO2.out (by have:=LN.out;omega)).mono ?_
   rintro e w2 ⟨v2,rfl,q1,q2,q3⟩
   have hM:w2.heap[wr.heap.size]? = some (.cells (evV x).toArray 87 (0,0)):=q2.at_ (heap_alloc_new wr _) (fun hc=>by have:=OW.out _ hc;omega)
   have hN0:w2.heap[w1.heap.size]? = some (.cells (evV h1).toArray 87 (0,0)):=q2.at_ (hn1.at_ V1.out.2.2.2) (fun hc=>(V1.out.2.2.1 _ hc).2 rfl)
   obtain⟨y0,y1,y2,y3,y4,-⟩:=evV_cells hM
   obtain⟨z0,z1,z2,z3,z4,zf⟩:=evV_cells hN0
   have f0:=zf 0
   have f1:=zf 1
   have f2:=zf 2
   have f3:=zf 3
   have f4:=zf 4
   obtain⟨ta,tc,rfl,-⟩:=q1.len
   have Q:=zH (And.intro q1 (And.intro q2 q3))
   have HN0:=zH hN0
   clear q1 q2 q3 hM hN0 zf x0 x1 x2 x3 x4 d0 d1 d2 d3 d4
   have HB1':=HB1.out
   rw[←HB1']at Q
   clear HB1'
   have hq:(b1++putE h1 x).length=b2.length:=by rw[HB1.out]
   rw[hq]
   clear hq
   go_wp2
   go_roundw
   case rel =>
    have hs5:=only_set5 w2 w1.heap.size (.int .i64 x.thread) (.int .u8 x.op.toNat) (.int .i64 x.obj) (.int .i64 x.a) (.int .i64 x.b)
    have hb5:=heap_set5 (w1:=w2) (p:=w1.heap.size) (t:=87) HN0.out (.int .i64 x.thread) (.int .u8 x.op.toNat) (.int .i64 x.obj) (.int .i64 x.a) (.int .i64 x.b)
    have hw1:Nw w w1:=G1.out.2.1
    have hfr:∀g,(Value.slice ta b2.length tc).ownBlock=some g→w.heap.size≤g∧g≠w1.heap.size:=fun g hg=>by
     rcases Q.out.2.2 with h|h
     ·exact V1.out.2.2.1 g (h▸hg)
     ·have h1:=h g hg
      have h2:=hn1.size
      have h3:=V1.out.2.1.size
      refine⟨by omega,fun e=>?_⟩
      simp only[World.size_alloc]at h1
      omega
    refine⟨k+1,by omega,by go_num,?_,?_,hfr,?_⟩
    ·have:=Q.out.1.keep (w':=(((((w2.setCell ⟨w1.heap.size,0,none⟩ (.int .i64 x.thread)).setCell ⟨w1.heap.size,1,none⟩ (.int .u8 x.op.toNat)).setCell ⟨w1.heap.size,2,none⟩ (.int .i64 x.obj)).setCell ⟨w1.heap.size,3,none⟩ (.int .i64 x.a)).setCell ⟨w1.heap.size,4,none⟩ (.int .i64 x.b))) hs5.size (fun g hg=>hs5.block g (Q.out.1.lt g hg) (hfr g hg).2)
     exact HBX.out▸this
    ·have h1:Nw w w2:=(V1.out.2.1.trans hn1).trans' Q.out.2.1 (fun k hk hc=>by have:=(V1.out.2.2.1 k hc).1;omega)
     exact h1.trans' hs5 (fun k hk hc=>by have:=hw1.size;omega)
    ·exact HLX.out▸hb5
   case measure=>simp[intOf];omega
  ·obtain rfl:k=n:=by omega
   have hall:l.take k=l:=by rw[←HN.out];exact List.take_length
   rw[hall]at hb hlen
   have HBD:Hid (uintB k++putL Ev.zero l=bodyB l):=zH (by unfold bodyB;rw[HN.out])
   rw[HBD.out]at hb hlen
   obtain⟨sa,sc,rfl,-⟩:=hb.len
   have B:=zH (And.intro hb (And.intro hw hf))
   have OW:=zH hb.lt
   have LN:=zH hlen
   have hm:((bodyB l).length:Int) % 18446744073709551616=(bodyB l).length:=by omega
   have HFR:Hid (frmB l=uintB (bodyB l).length++sealB sumB (bodyB l)):=zH rfl
   clear hb hw hf hbox hlen hall HBD
   generalize bodyB l=bd at B OW LN hm HFR
   go_wp2_with fail
   refine (Uint_ok (l:=[]) Vec.nil bd.length (by have:=LN.out;omega) (by simp)).mono ?_
   rintro e w2 ⟨v2,rfl,q1,q2,q3⟩
   have n2:Nw wr w2:=q2.mono (fun k _ hk=>by cases hk)
   have f2:∀g,v2.ownBlock=some g→wr.heap.size≤g:=fun g hg=>by
    rcases q3 with h|h
    ·rw[h]at hg;cases hg
    ·exact h g hg
   simp only[List.nil_append]at q1
   have HU:Hid ((uintB bd.length).length≤10):=zH (uintB_len _ 10 (by omega) (Nat.lt_trans (show bd.length<2 ^ 64 by have:=LN.out;omega) (by decide)))
   generalize uintB bd.length=ub at q1 HU HFR
   obtain⟨ta,tc,rfl,-⟩:=q1.len
   have Q:=zH (And.intro q1 (And.intro n2 f2))
   have QL:=zH q1.lt
   clear q1 q2 q3 n2 f2
   go_wp2_with fail
   refine (Seal_ok (B.out.1.rd.nw Q.out.2.1) (by have:=LN.out;omega)).mono ?_
   rintro e w3 ⟨v3,rfl,q1,q2,q3⟩
   have HS:Hid ((sealB sumB bd).length=bd.length+4):=zH (by simp[sealB,sumB_len])
   generalize sealB sumB bd=sb at q1 HS HFR
   obtain⟨ya,yc,rfl,-⟩:=q1.len
   have P:=zH (And.intro q1 (And.intro q2 q3))
   clear q1 q2 q3
   have V3:=zH (Q.out.1.nw P.out.2.1)
   have S3:=zH P.out.1.src
   obtain⟨i0,hi,hz0,hz1,hz2⟩:=info_parts infoU8
   have HI:=zH hi
   have HZ0:=zH hz0
   have HZ1:=zH hz1
   have HZ2:=zH hz2
   clear hi hz0 hz1 hz2
   go_wp2_with (at_builtin;refine wpList_append_vec rfl _ _ 79 rfl 5 i0 (.int .u8 0) 1 1 Tryz.underlying79 HI.out HZ0.out HZ1.out HZ2.out rfl (by decide) rfl rfl V3.out S3.out ?c1 ?c2 ?c3 ?_)
   case c1=>exact fun u hu=>by obtain⟨y,_,rfl⟩:=List.mem_map.1 hu;exact u8_cell y
   case c2=>have:=HU.out;have:=HS.out;have:=LN.out;unfold maxLen;omega
   case c3=>have:=HU.out;have:=HS.out;have:=LN.out;omega
   intro v4 w4 q1 q2 q3
   obtain⟨ma,mc,rfl,-⟩:=q1.len
   have R:=zH (And.intro q1 (And.intro q2 q3))
   clear q1 q2 q3
   go_wp2
   refine bodyPost_ret (v:=.tuple #[.slice ma (ub.length+sb.length) mc,.int .i64 0]) (by simp[results,Tryz.results72,go_sem]) rfl ⟨_,rfl,?_,?_,?_⟩
   ·rw[HFR.out,List.length_append,List.map_append];exact R.out.1
   ·exact ((B.out.2.1.trans Q.out.2.1).trans P.out.2.1).trans' R.out.2.1 (fun j hj hc=>by have h1:=Q.out.2.2 j hc;have h2:=B.out.2.1.size;omega)
   ·intro g hg
    have s1:=B.out.2.1.size
    have s2:=Q.out.2.1.size
    have s3:=P.out.2.1.size
    rcases R.out.2.2 with h|h
    ·have:=Q.out.2.2 g (h▸hg);omega
    ·have:=h g hg;omega
def gI (l:List UInt8) (a:Int) (r:Int×Int×Int):Int:=if r.2.2=0 then w64 (a+(getI l r.2.1).1) else 0
theorem Get1_ok {W:World}{v:Value}{l:List UInt8}{pb pa px:Nat}{n at_ bad:Int}(h0:W.heap[pb]? = some (.cells #[v] 79 (0,0))) (h1:W.heap[pa]? = some (.cells #[.int .i64 at_] 3 (0,0))) (h2:W.heap[px]? = some (.cells #[.int .i64 bad] 33 (0,0)))
  (hne:px≠pa) (hv:Bs W v l) (ha:in64 at_) (a:Int) :
  Calls Tryz.prog 235 #[.int .i64 a,.pointer (some ⟨px,0,none⟩),.pointer (some ⟨pb,0,none⟩),.pointer (some ⟨pa,0,none⟩)] W fun e W'=>e=.returned (.int .i64 (gI l a (n,at_,bad))) ∧
   W'.heap[pa]? = some (.cells #[.int .i64 (thenI l (n,at_,bad)).2.1] 3 (0,0))∧W'.heap[px]? = some (.cells #[.int .i64 (thenI l (n,at_,bad)).2.2] 33 (0,0))∧Only (fun k=>k=pa∨k=px) W W':=by
 have c0:W.cell? ⟨pb,0,none⟩=some v:=by simp[World.cell?,h0]
 have c1:W.cell? ⟨pa,0,none⟩=some (.int .i64 at_):=by simp[World.cell?,h1]
 have c2:W.cell? ⟨px,0,none⟩=some (.int .i64 bad):=by simp[World.cell?,h2]
 have f1:W.frozen? ⟨pa,0,none⟩=false:=by simp[World.frozen?,h1]
 have f2:W.frozen? ⟨px,0,none⟩=false:=by simp[World.frozen?,h2]
 have hlb:=lt_of_block h0
 have hla:=lt_of_block h1
 have hlx:=lt_of_block h2
 have H1:=zH h1
 have H2:=zH h2
 obtain⟨sa,sc,rfl,-⟩:=hv.len
 by_cases hb:bad=0
 case neg =>
  have q1:(bad !=0)=true:=by simpa using hb
  have R1:Hid (gI l a (n,at_,bad)=0):=zH (by unfold gI;rw[if_neg hb])
  have R2:Hid (thenI l (n,at_,bad)=(0,at_,bad)):=zH (by unfold thenI;rw[if_neg hb])
  clear hv h0 h1 h2 hb
  go_enter Tryz.func235,Tryz.ntmps235
  go_wp2
  go_ret
  exact⟨by rw[R1.out];rfl,by rw[R2.out];exact H1.out,by rw[R2.out];exact H2.out,Only.refl _⟩
 subst hb
 obtain⟨⟨m,x,e⟩,hm⟩:=zN (getI l at_)
 have HG:=zH (GetInt_ok hv at_ ha hm)
 have R1:Hid (gI l a (n,at_,0)=w64 (a+m)):=zH (by unfold gI;rw[if_pos rfl,hm])
 have R2:Hid (thenI l (n,at_,0)=(m,x,e)):=zH (by unfold thenI;rw[if_pos rfl,hm])
 have hw:IntKind.i64.wrap (a+m)=w64 (a+m):=by rw[IntKind.wrap_i64];rfl
 have HNE:=zH hne
 clear hv h0 h1 h2 hm
 go_enter Tryz.func235,Tryz.ntmps235
 go_wp2_with fail
 refine HG.out.mono ?_
 rintro y w1 ⟨rfl,rfl⟩
 go_wp2
 go_ret
 have b1:=one_setCell H1.out (u:=.int .i64 x)
 have k1:(W.setCell ⟨pa,0,none⟩ (.int .i64 x)).heap[px]? = some (.cells #[.int .i64 0] 33 (0,0)):=by rw[Below.heap_setCell _ _ _ _ (show px≠(⟨pa,0,none⟩:Addr).block from HNE.out)];exact H2.out
 have b2:=one_setCell k1 (u:=.int .i64 e)
 refine⟨by rw[R1.out];rfl,?_,?_,?_⟩
 ·rw[R2.out,Below.heap_setCell _ _ _ _ (show pa≠(⟨px,0,none⟩:Addr).block from HNE.out.symm)]
  exact b1
 ·rw[R2.out];exact b2
 ·exact ((Only.refl W).setCell (fun _=>.inl rfl) _).setCell (fun _=>.inr rfl) _
structure GS (w W:World) (v:Value) (h:Ev) (at_ bad:Int) (e:Ev):Prop where
 b0:W.heap[w.heap.size]? = some (.cells #[v] 79 (0,0))
 b1:W.heap[w.heap.size+1]? = some (.cells #[.int .i64 at_] 3 (0,0))
 b2:W.heap[w.heap.size+1+1]? = some (.cells (evV h).toArray 87 (0,0))
 b3:W.heap[w.heap.size+1+1+1]? = some (.cells (evV Ev.zero).toArray 87 (0,0))
 b4:W.heap[w.heap.size+1+1+1+1]? = some (.cells (evV e).toArray 87 (0,0))
 b5:W.heap[w.heap.size+1+1+1+1+1]? = some (.cells #[.int .i64 bad] 33 (0,0))
 nw:Nw w W
section
variable {w W W':World}{v:Value}{h e e':Ev}{at_ bad at' bad':Int}{l:List UInt8}
theorem GS.step (H:GS w W v h at_ bad e) (h1:W'.heap[w.heap.size+1]? = some (.cells #[.int .i64 at'] 3 (0,0))) (h2:W'.heap[w.heap.size+1+1+1+1+1]? = some (.cells #[.int .i64 bad'] 33 (0,0)))
  (ho:Only (fun k=>k=w.heap.size+1∨k=w.heap.size+1+1+1+1+1) W W'):GS w W' v h at' bad' e:=
 ⟨ho.at_ H.b0 (by omega),h1,ho.at_ H.b2 (by omega),ho.at_ H.b3 (by omega),ho.at_ H.b4 (by omega),h2,H.nw.trans' ho (fun k hk hc=>by omega)⟩
theorem GS.call (H:GS w W v h at_ bad e) (hv:Bs w v l) (ha:in64 at_) (a n:Int) :
  Calls Tryz.prog 235 #[.int .i64 a,.pointer (some ⟨w.heap.size+1+1+1+1+1,0,none⟩),.pointer (some ⟨w.heap.size,0,none⟩),.pointer (some ⟨w.heap.size+1,0,none⟩)] W fun x W'=>x=.returned (.int .i64 (gI l a (n,at_,bad))) ∧
   GS w W' v h (thenI l (n,at_,bad)).2.1 (thenI l (n,at_,bad)).2.2 e:=
 (Get1_ok (n:=n) H.b0 H.b1 H.b5 (by omega) (hv.nw H.nw) ha a).mono fun _ _ ⟨q1,q2,q3,q4⟩=>⟨q1,H.step q2 q3 q4⟩
theorem GS.put (H:GS w W v h at_ bad e) (i:Nat) (u:Value) (he:(evV e).toArray.setIfInBounds i u=(evV e').toArray):GS w (W.setCell ⟨w.heap.size+1+1+1+1,i,none⟩ u) v h at_ bad e':=by
 have ho:Only (fun k=>k=w.heap.size+1+1+1+1) W (W.setCell ⟨w.heap.size+1+1+1+1,i,none⟩ u):=Only.setCell (S:=fun k=>k=w.heap.size+1+1+1+1) (p:=⟨w.heap.size+1+1+1+1,i,none⟩) (Only.refl W) (fun _=>rfl) _
 refine⟨ho.at_ H.b0 (by omega),ho.at_ H.b1 (by omega),ho.at_ H.b2 (by omega),ho.at_ H.b3 (by omega),?_,ho.at_ H.b5 (by omega),H.nw.trans' ho (fun k hk hc=>by omega)⟩
 have:=heap_setCell_at H.b4 i u
 rw[he]at this
 exact this
theorem GS.cells (H:GS w W v h at_ bad e):W.cell? ⟨w.heap.size+1+1,0,none⟩=some (.int .i64 h.thread)∧W.cell? ⟨w.heap.size+1+1,2,none⟩=some (.int .i64 h.obj)∧W.cell? ⟨w.heap.size+1+1,3,none⟩=some (.int .i64 h.a)∧W.cell? ⟨w.heap.size+1+1,4,none⟩=some (.int .i64 h.b):=by
 have:=H.b2
 simp[World.cell?,this,evV]
end
theorem GS.start (w:World) (v:Value) (h e:Ev) (at_ bad:Int) :
  GS w ((((((w.alloc (.cells #[v] 79)).alloc (.cells #[.int .i64 at_] 3)).alloc (.cells (evV h).toArray 87)).alloc (.cells (evV Ev.zero).toArray 87)).alloc (.cells (evV e).toArray 87)).alloc (.cells #[.int .i64 bad] 33)) v h at_ bad e:=by
 have key:∀(W:World) (o:Obj) (k:Nat) (x:Obj),k<W.heap.size→W.heap[k]? = some x→(W.alloc o).heap[k]? = some x:=fun W o k x hk hx=>(heap_alloc_old W o hk).trans hx
 have n0:=heap_alloc_new w (.cells #[v] 79)
 generalize hw0:w.alloc (.cells #[v] 79)=w0 at *
 have n1:=heap_alloc_new w0 (.cells #[.int .i64 at_] 3)
 generalize hw1:w0.alloc (.cells #[.int .i64 at_] 3)=w1 at *
 have n2:=heap_alloc_new w1 (.cells (evV h).toArray 87)
 generalize hw2:w1.alloc (.cells (evV h).toArray 87)=w2 at *
 have n3:=heap_alloc_new w2 (.cells (evV Ev.zero).toArray 87)
 generalize hw3:w2.alloc (.cells (evV Ev.zero).toArray 87)=w3 at *
 have n4:=heap_alloc_new w3 (.cells (evV e).toArray 87)
 generalize hw4:w3.alloc (.cells (evV e).toArray 87)=w4 at *
 have n5:=heap_alloc_new w4 (.cells #[.int .i64 bad] 33)
 have s0:w0.heap.size=w.heap.size+1:=by rw[←hw0];simp
 have s1:w1.heap.size=w.heap.size+1+1:=by rw[←hw1];simp[s0]
 have s2:w2.heap.size=w.heap.size+1+1+1:=by rw[←hw2];simp[s1]
 have s3:w3.heap.size=w.heap.size+1+1+1+1:=by rw[←hw3];simp[s2]
 have s4:w4.heap.size=w.heap.size+1+1+1+1+1:=by rw[←hw4];simp[s3]
 have e1:=hw1▸(Nw.refl w0).alloc (.cells #[.int .i64 at_] 3)
 have e2:=hw2▸(Nw.refl w1).alloc (.cells (evV h).toArray 87)
 have e3:=hw3▸(Nw.refl w2).alloc (.cells (evV Ev.zero).toArray 87)
 have e4:=hw4▸(Nw.refl w3).alloc (.cells (evV e).toArray 87)
 have e5:=(Nw.refl w4).alloc (.cells #[.int .i64 bad] 33)
 have e0:=hw0▸(Nw.refl w).alloc (.cells #[v] 79)
 refine⟨((((e1.trans e2).trans e3).trans e4).trans e5).at_ n0,?_,?_,?_,?_,?_,((((e0.trans e1).trans e2).trans e3).trans e4).trans e5⟩
 ·rw[←s0];exact (((e2.trans e3).trans e4).trans e5).at_ n1
 ·rw[←s1];exact ((e3.trans e4).trans e5).at_ n2
 ·rw[←s2];exact (e4.trans e5).at_ n3
 ·rw[←s3];exact e5.at_ n4
 ·rw[←s4];exact n5
theorem thenI_place {l:List UInt8}{r:Int×Int×Int}(h:in64 r.2.1) (hl:l.length≤9223372036854775807):in64 (thenI l r).2.1:=by
 unfold thenI
 split
 ·unfold getI
  split
  ·rename_i hb
   have:=getU_fine hb
   exact⟨by simp only;omega,by simp only;omega⟩
  ·exact⟨by simp only;omega,by simp only;omega⟩
 ·exact h
theorem EGet_ok {w:World}{v:Value}{l:List UInt8}(hv:Bs w v l) (at_:Int) (ha:in64 at_) (h:Ev){e:Ev}{x y:Int}(hr:getE l at_ h=(e,x,y)) :
  Calls Tryz.prog 226 #[v,.int .i64 at_,.agg (evV h).toArray] w fun z w'=>z=.returned (.tuple #[.agg (evV e).toArray,.int .i64 x,.int .i64 y])∧Nw w w':=by
 obtain⟨a,cap,rfl,h1,h2,hel⟩:=hv.elems
 have hmax:l.length≤9223372036854775807:=by unfold maxLen at h2;omega
 have HV:=zH hv
 have HR:=zH hr
 have HE:=zH hel
 clear hv hr h1 h2 hel
 by_cases c0:at_<0
 ·have r:=HR.out
  unfold getE at r
  rw[if_pos (.inl c0)]at r
  cases r
  clear HV HR HE
  have hz:=heap_alloc_new (((w.alloc (.cells #[.slice a l.length cap] 79)).alloc (.cells #[.int .i64 at_] 3)).alloc (.cells (evV h).toArray 87)) (.cells (evV Ev.zero).toArray 87)
  simp only[World.size_alloc]at hz
  obtain⟨r0,r1,r2,r3,r4,-⟩:=evV_cells hz
  have N:=zH ((((Nw.refl w).alloc (.cells #[.slice a l.length cap] 79)).alloc (.cells #[.int .i64 at_] 3)).alloc (.cells (evV h).toArray 87) |>.alloc (.cells (evV Ev.zero).toArray 87))
  clear hz
  unfold evV Ev.zero at *
  go_enter Tryz.func226,Tryz.ntmps226
  go_wp2
  refine bodyPost_ret (v:=.tuple #[.agg #[.int .i64 0,.int .u8 0,.int .i64 0,.int .i64 0,.int .i64 0],.int .i64 0,.int .i64 2]) (by simp[results,Tryz.results226,go_sem]) rfl ⟨rfl,N.out⟩
 by_cases c1:(l.length:Int)<at_
 ·have r:=HR.out
  unfold getE at r
  rw[if_pos (.inr c1)]at r
  cases r
  clear HV HR HE
  have hz:=heap_alloc_new (((w.alloc (.cells #[.slice a l.length cap] 79)).alloc (.cells #[.int .i64 at_] 3)).alloc (.cells (evV h).toArray 87)) (.cells (evV Ev.zero).toArray 87)
  simp only[World.size_alloc]at hz
  obtain⟨r0,r1,r2,r3,r4,-⟩:=evV_cells hz
  have N:=zH ((((Nw.refl w).alloc (.cells #[.slice a l.length cap] 79)).alloc (.cells #[.int .i64 at_] 3)).alloc (.cells (evV h).toArray 87) |>.alloc (.cells (evV Ev.zero).toArray 87))
  clear hz
  unfold evV Ev.zero at *
  go_enter Tryz.func226,Tryz.ntmps226
  go_wp2
  refine bodyPost_ret (v:=.tuple #[.agg #[.int .i64 0,.int .u8 0,.int .i64 0,.int .i64 0,.int .i64 0],.int .i64 0,.int .i64 2]) (by simp[results,Tryz.results226,go_sem]) rfl ⟨rfl,N.out⟩
 obtain⟨k,rfl⟩:∃k:Nat,at_=k:=⟨at_.toNat,by omega⟩
 by_cases c2:k=l.length
 ·subst c2
  have r:=HR.out
  unfold getE at r
  rw[if_neg (by omega),if_pos (by omega)]at r
  cases r
  clear HV HR HE
  have hz:=heap_alloc_new (((w.alloc (.cells #[.slice a l.length cap] 79)).alloc (.cells #[.int .i64 l.length] 3)).alloc (.cells (evV h).toArray 87)) (.cells (evV Ev.zero).toArray 87)
  simp only[World.size_alloc]at hz
  obtain⟨r0,r1,r2,r3,r4,-⟩:=evV_cells hz
  have N:=zH ((((Nw.refl w).alloc (.cells #[.slice a l.length cap] 79)).alloc (.cells #[.int .i64 l.length] 3)).alloc (.cells (evV h).toArray 87) |>.alloc (.cells (evV Ev.zero).toArray 87))
  clear hz
  unfold evV Ev.zero at *
  go_enter Tryz.func226,Tryz.ntmps226
  go_wp2
  refine bodyPost_ret (v:=.tuple #[.agg #[.int .i64 0,.int .u8 0,.int .i64 0,.int .i64 0,.int .i64 0],.int .i64 0,.int .i64 11]) (by simp[results,Tryz.results226,go_sem]) rfl ⟨rfl,N.out⟩
 have hk:k<l.length:=by omega
 obtain⟨g,o,rfl,hg,hc⟩:=HE.out k hk
 have hc:w.cell? ⟨g,o+k,none⟩=some (.int .u8 (l[k].toNat:Int)):=hc
 have q1:((k:Int)==(l.length:Int))=false:=by simp;omega
 have r:=HR.out
 unfold getE at r
 rw[if_neg (by omega),if_neg (by omega)]at r
 have hop:l.getD (k:Int).toNat 0=l[k]:=by simp[List.getD,hk]
 rw[hop]at r
 have R:=zH r
 clear r hop HR HE
 generalize (l[k]:UInt8)=op at *
 have hcA:∀o1 o2 o3 o4,((((w.alloc o1).alloc o2).alloc o3).alloc o4).cell? ⟨g,o+k,none⟩=some (.int .u8 (op.toNat:Int)):=fun o1 o2 o3 o4=>((((Nw.refl w).alloc o1).alloc o2).alloc o3 |>.alloc o4).cell hc
 have S0:=zH (GS.start w (.slice (some ⟨g,o,none⟩) l.length cap) h ⟨0,op,0,0,0⟩ ((k:Int)+1) 0)
 have hin0:in64 ((k:Int)+1):=⟨by omega,by omega⟩
 unfold evV Ev.zero at S0
 unfold evV
 go_enter Tryz.func226,Tryz.ntmps226
 go_wp2_with fail
 have R0:Hid (thenI l (0,(k:Int)+1,0)=getI l ((k:Int)+1)):=zH (by unfold thenI;rw[if_pos rfl])
 refine (S0.out.call HV.out hin0 h.thread 0).mono ?_
 rintro z w1 ⟨rfl,q⟩
 have hin1:=thenI_place (l:=l) (r:=(0,((k:Int)+1),0)) hin0 hmax
 obtain⟨⟨m1,x1,y1⟩,hr1⟩:=zN (thenI l (0,((k:Int)+1),0))
 obtain⟨g1,hg1⟩:=zN (gI l h.thread (0,((k:Int)+1),0))
 rw[hr1]at q hin1
 rw[hg1]
 simp only at q hin1
 have R1:=zH hr1
 have G1:=zH hg1
 have Q1:=zH q
 obtain⟨c0,c1,c2,c3⟩:=q.cells
 obtain⟨d0,d1,d2,d3,d4,df⟩:=evV_cells q.b4
 have f0:=df 0
 clear q hr1 hg1 df S0
 have S1:Hid (GS w (w1.setCell ⟨w.heap.size+1+1+1+1,0,none⟩ (.int .i64 g1)) (.slice (some ⟨g,o,none⟩) l.length cap) h x1 y1 ⟨g1,op,0,0,0⟩):=zH (Q1.out.put 0 _ rfl)
 go_wp2_with fail
 refine (S1.out.call HV.out hin1 h.obj m1).mono ?_
 rintro z w2 ⟨rfl,q⟩
 have hin2:=thenI_place (l:=l) (r:=(m1,x1,y1)) hin1 hmax
 obtain⟨⟨m2,x2,y2⟩,hr2⟩:=zN (thenI l (m1,x1,y1))
 obtain⟨g2,hg2⟩:=zN (gI l h.obj (m1,x1,y1))
 rw[hr2]at q hin2
 rw[hg2]
 simp only at q hin2
 have R2:=zH hr2
 have G2:=zH hg2
 have Q2:=zH q
 obtain⟨c0,c1,c2,c3⟩:=q.cells
 obtain⟨d0,d1,d2,d3,d4,df⟩:=evV_cells q.b4
 have f0:=df 2
 clear q hr2 hg2 df S1
 have S2:Hid (GS w (w2.setCell ⟨w.heap.size+1+1+1+1,2,none⟩ (.int .i64 g2)) (.slice (some ⟨g,o,none⟩) l.length cap) h x2 y2 ⟨g1,op,g2,0,0⟩):=zH (Q2.out.put 2 _ rfl)
 go_wp2_with fail
 refine (S2.out.call HV.out hin2 h.a m2).mono ?_
 rintro z w3 ⟨rfl,q⟩
 have hin3:=thenI_place (l:=l) (r:=(m2,x2,y2)) hin2 hmax
 obtain⟨⟨m3,x3,y3⟩,hr3⟩:=zN (thenI l (m2,x2,y2))
 obtain⟨g3,hg3⟩:=zN (gI l h.a (m2,x2,y2))
 rw[hr3]at q hin3
 rw[hg3]
 simp only at q hin3
 have R3:=zH hr3
 have G3:=zH hg3
 have Q3:=zH q
 obtain⟨c0,c1,c2,c3⟩:=q.cells
 obtain⟨d0,d1,d2,d3,d4,df⟩:=evV_cells q.b4
 have f0:=df 3
 clear q hr3 hg3 df S2
 have S3:Hid (GS w (w3.setCell ⟨w.heap.size+1+1+1+1,3,none⟩ (.int .i64 g3)) (.slice (some ⟨g,o,none⟩) l.length cap) h x3 y3 ⟨g1,op,g2,g3,0⟩):=zH (Q3.out.put 3 _ rfl)
 go_wp2_with fail
 refine (S3.out.call HV.out hin3 h.b m3).mono ?_
 rintro z w4 ⟨rfl,q⟩
 have hin4:=thenI_place (l:=l) (r:=(m3,x3,y3)) hin3 hmax
 obtain⟨⟨m4,x4,y4⟩,hr4⟩:=zN (thenI l (m3,x3,y3))
 obtain⟨g4,hg4⟩:=zN (gI l h.b (m3,x3,y3))
 rw[hr4]at q hin4
 rw[hg4]
 simp only at q hin4
 have R4:=zH hr4
 have G4:=zH hg4
 have Q4:=zH q
 obtain⟨c0,c1,c2,c3⟩:=q.cells
 obtain⟨d0,d1,d2,d3,d4,df⟩:=evV_cells q.b4
 have f0:=df 4
 clear q hr4 hg4 df S3
 have S4:Hid (GS w (w4.setCell ⟨w.heap.size+1+1+1+1,4,none⟩ (.int .i64 g4)) (.slice (some ⟨g,o,none⟩) l.length cap) h x4 y4 ⟨g1,op,g2,g3,g4⟩):=zH (Q4.out.put 4 _ rfl)
 have k5:w4.cell? ⟨w.heap.size+1+1+1+1+1,0,none⟩=some (.int .i64 y4):=by have:=Q4.out.b5;simp[World.cell?,this]
 clear Q1 Q2 Q3 Q4
 by_cases hy:y4=0
 case neg =>
  have hy1:(y4 !=0)=true:=by simpa using hy
  go_upto_region 14 with fail
  obtain⟨W4,hW⟩:=zN (w4.setCell ⟨w.heap.size+1+1+1+1,4,none⟩ (.int .i64 g4))
  rw[hW]at S4
  simp only[hW]
  obtain⟨z0,z1,z2,z3,z4,zf⟩:=evV_cells S4.out.b3
  obtain⟨t0,t1,t2,t3,t4,-⟩:=evV_cells S4.out.b4
  have zf0:=zf 0
  have zf1:=zf 1
  have zf2:=zf 2
  have zf3:=zf 3
  have zf4:=zf 4
  have k6:W4.cell? ⟨w.heap.size+1+1+1+1+1,0,none⟩=some (.int .i64 y4):=by have:=S4.out.b5;simp[World.cell?,this]
  have k7:W4.cell? ⟨w.heap.size+1,0,none⟩=some (.int .i64 x4):=by have:=S4.out.b1;simp[World.cell?,this]
  clear hW k5 zf c0 c1 c2 c3 d0 d1 d2 d3 d4 f0 hin1 hin2 hin3 hin4 hcA hc
  go_region
  have hb5:=heap_set5 (w1:=W4) (p:=w.heap.size+1+1+1) (t:=87) S4.out.b3 (.int .i64 0) (.int .u8 0) (.int .i64 0) (.int .i64 0) (.int .i64 0)
  have ho5:=only_set5 W4 (w.heap.size+1+1+1) (.int .i64 0) (.int .u8 0) (.int .i64 0) (.int .i64 0) (.int .i64 0)
  have N:=zH ((S4.out.nw.trans' ho5 (fun k hk hc=>by omega)).drew)
  obtain⟨r0,r1,r2,r3,r4,-⟩:=evV_cells (h:=⟨0,0,0,0,0⟩) hb5
  clear hb5 ho5
  go_wp2
  refine bodyPost_ret (v:=.tuple #[.agg #[.int .i64 0,.int .u8 0,.int .i64 0,.int .i64 0,.int .i64 0],.int .i64 0,.int .i64 y4]) (by simp[results,Tryz.results226,go_sem,r0,r1,r2,r3,r4]) rfl ⟨?_,N.out⟩
  have r:=R.out
  rw[←R0.out,R1.out,R2.out,R3.out,R4.out,if_pos hy]at r
  cases r
  rfl
 case pos =>
  subst hy
  go_upto_region 15 with fail
  obtain⟨W4,hW⟩:=zN (w4.setCell ⟨w.heap.size+1+1+1+1,4,none⟩ (.int .i64 g4))
  rw[hW]at S4
  simp only[hW]
  obtain⟨z0,z1,z2,z3,z4,zf⟩:=evV_cells S4.out.b3
  obtain⟨t0,t1,t2,t3,t4,-⟩:=evV_cells S4.out.b4
  have zf0:=zf 0
  have zf1:=zf 1
  have zf2:=zf 2
  have zf3:=zf 3
  have zf4:=zf 4
  have k6:W4.cell? ⟨w.heap.size+1+1+1+1+1,0,none⟩=some (.int .i64 0):=by have:=S4.out.b5;simp[World.cell?,this]
  have k7:W4.cell? ⟨w.heap.size+1,0,none⟩=some (.int .i64 x4):=by have:=S4.out.b1;simp[World.cell?,this]
  clear hW k5 zf c0 c1 c2 c3 d0 d1 d2 d3 d4 f0 hin1 hin2 hin3 hin4 hcA hc
  go_region
  have hb5:=heap_set5 (w1:=W4) (p:=w.heap.size+1+1+1) (t:=87) S4.out.b3 (.int .i64 g1) (.int .u8 op.toNat) (.int .i64 g2) (.int .i64 g3) (.int .i64 g4)
  have ho5:=only_set5 W4 (w.heap.size+1+1+1) (.int .i64 g1) (.int .u8 op.toNat) (.int .i64 g2) (.int .i64 g3) (.int .i64 g4)
  have N:=zH ((S4.out.nw.trans' ho5 (fun k hk hc=>by omega)).drew)
  obtain⟨r0,r1,r2,r3,r4,-⟩:=evV_cells (h:=⟨g1,op,g2,g3,g4⟩) hb5
  clear hb5 ho5
  go_wp2
  refine bodyPost_ret (v:=.tuple #[.agg #[.int .i64 g1,.int .u8 op.toNat,.int .i64 g2,.int .i64 g3,.int .i64 g4],.int .i64 x4,.int .i64 0]) (by simp[results,Tryz.results226,go_sem,r0,r1,r2,r3,r4]) rfl ⟨?_,N.out⟩
  have r:=R.out
  have f3:=(thenI_fine (b:=l) (r:=(m3,x3,y3)) (by rw[R4.out])).1
  simp only at f3
  subst f3
  have f2:=(thenI_fine (b:=l) (r:=(m2,x2,y2)) (by rw[R3.out])).1
  simp only at f2
  subst f2
  have f1:=(thenI_fine (b:=l) (r:=(m1,x1,y1)) (by rw[R2.out])).1
  simp only at f1
  subst f1
  have e2:getI l x1=(m2,x2,0):=by have:=R2.out;unfold thenI at this;rwa [if_pos rfl]at this
  have e3:getI l x2=(m3,x3,0):=by have:=R3.out;unfold thenI at this;rwa [if_pos rfl]at this
  have e4:getI l x3=(m4,x4,0):=by have:=R4.out;unfold thenI at this;rwa [if_pos rfl]at this
  have h1:=G1.out
  have h2:=G2.out
  have h3:=G3.out
  have h4:=G4.out
  unfold gI at h1 h2 h3 h4
  rw[if_pos rfl]at h1 h2 h3 h4
  simp only at h1 h2 h3 h4
  rw[←R0.out,R1.out]at h1
  rw[e2]at h2
  rw[e3]at h3
  rw[e4]at h4
  rw[←R0.out,R1.out,R2.out,R3.out,R4.out,if_neg (by simp)]at r
  simp only at r h1 h2 h3 h4
  rw[h1,h2,h3,h4]at r
  cases r
  rfl
set_option maxHeartbeats 800000
def Kept (X:Nat→Prop) (w w':World):Prop:=w.heap.size≤w'.heap.size∧∀k,X k→k<w.heap.size→w'.heap[k]? = w.heap[k]?
theorem Kept.refl {X:Nat→Prop}(w:World):Kept X w w:=⟨Nat.le_refl _,fun _ _ _=>rfl⟩
theorem Kept.trans {X:Nat→Prop}{w w' w'':World}(h:Kept X w w') (h':Kept X w' w''):Kept X w w'':=
 ⟨Nat.le_trans h.1 h'.1,fun k hk hl=>(h'.2 k hk (Nat.lt_of_lt_of_le hl h.1)).trans (h.2 k hk hl)⟩
theorem Kept.weak {X Y:Nat→Prop}{w w':World}(h:Kept X w w') (hy:∀k,Y k→X k):Kept Y w w':=⟨h.1,fun k hk hl=>h.2 k (hy k hk) hl⟩
theorem Nw.kept {X:Nat→Prop}{w w':World}(h:Nw w w'):Kept X w w':=⟨h.size,fun k _ hl=>h.block k hl (fun hf=>hf)⟩
theorem Kept.cell {X:Nat→Prop}{w w':World}(h:Kept X w w'){a:Addr}{v:Value}(hc:w.cell? a=some v) (hx:X a.block):w'.cell? a=some v:=
 (World.cell?_of_block (h.2 _ hx (World.block_lt_of_cell? w a hc))).trans hc
theorem Rd.kept {α:Type}{f:α→Value}{X:Nat→Prop}{w w':World}{v:Value}{l:List α}(h:Rd f w v l) (hk:Kept X w w') (hx:l≠[]→∀g,v.ownBlock=some g→X g):Rd f w' v l:=by
 rcases h with h|⟨g,o,cap,rfl,h1,h2,hg,h3⟩
 ·exact .inl h
 ·exact .inr ⟨g,o,cap,rfl,h1,h2,Nat.lt_of_lt_of_le hg hk.1,fun i hi=>hk.cell (h3 i hi) (hx (fun e=>by rw[e]at hi;exact absurd hi (by simp)) g rfl)⟩
def HasX (X:Nat→Prop) (w0 w:World) (b:Nat) (d:Dsk):Prop:=∃S,DiskIn w b d S∧Nw w0 w∧(∀k,S k→w0.heap.size≤k)∧∀k,X k→k<w.heap.size∧¬ S k
def DidX (X:Nat→Prop) (w0 w:World) (b:Nat) (d':Dsk) (v:Value) (e:Ending) (w':World):Prop:=e=.returned v∧HasX X w0 w' b d'∧Kept X w w'
section
variable {X Y:Nat→Prop}{w0 w w':World}{b:Nat}{d d':Dsk}
theorem HasX.has (h:HasX X w0 w b d):Has w0 w b d:=by
 obtain⟨S,h1,h2,h3,-⟩:=h
 exact⟨S,h1,h2,h3⟩
theorem Has.hasX (h:Has w0 w b d):HasX (fun _=>False) w0 w b d:=by
 obtain⟨S,h1,h2,h3⟩:=h
 exact⟨S,h1,h2,h3,fun _ hf=>hf.elim⟩
theorem HasX.base (h:HasX X w0 w b d):Nw w0 w:=h.has.base
theorem HasX.ok (h:HasX X w0 w b d):d.Ok:=h.has.ok
theorem HasX.lt (h:HasX X w0 w b d):∀k,X k→k<w.heap.size:=by
 obtain⟨S,h1,h2,h3,h4⟩:=h
 exact fun k hk=>(h4 k hk).1
theorem HasX.weak (h:HasX X w0 w b d) (hy:∀k,Y k→X k):HasX Y w0 w b d:=by
 obtain⟨S,h1,h2,h3,h4⟩:=h
 exact⟨S,h1,h2,h3,fun k hk=>h4 k (hy k hk)⟩
theorem HasX.nw (h:HasX X w0 w b d) (hw:Nw w w'):HasX X w0 w' b d:=by
 obtain⟨S,h1,h2,h3,h4⟩:=h
 exact⟨S,h1.nw hw,h2.trans hw,h3,fun k hk=>⟨Nat.lt_of_lt_of_le (h4 k hk).1 hw.size,(h4 k hk).2⟩⟩
theorem HasX.nwY (h:HasX X w0 w b d) (hw:Nw w w') (hy:∀k,Y k→X k∨w.heap.size≤k∧k<w'.heap.size):HasX Y w0 w' b d:=by
 obtain⟨S,h1,h2,h3,h4⟩:=h
 refine⟨S,h1.nw hw,h2.trans hw,h3,fun k hk=>?_⟩
 rcases hy k hk with h|⟨h,h'⟩
 ·exact⟨Nat.lt_of_lt_of_le (h4 k h).1 hw.size,(h4 k h).2⟩
 ·exact⟨h',fun hs=>by have:=h1.lt k hs;omega⟩
theorem HasX.put {Z:Nat→Prop}(h:HasX X w0 w b d) (hw:Only Z w w') (hz:∀k,Z k→k<w.heap.size→X k∧w0.heap.size≤k) (hy:∀k,Y k→X k∨w.heap.size≤k∧k<w'.heap.size):HasX Y w0 w' b d:=by
 obtain⟨S,h1,h2,h3,h4⟩:=h
 refine⟨S,?_,?_,h3,fun k hk=>?_⟩
 ·exact h1.keep hw fun k hk hzk=>(h4 k (hz k hzk (h1.lt k hk)).1).2 hk
 ·exact h2.trans' hw fun k hk hzk=>by have:=(hz k hzk (Nat.lt_of_lt_of_le hk h2.size)).2;omega
 ·rcases hy k hk with h|⟨h,h'⟩
  ·exact⟨Nat.lt_of_lt_of_le (h4 k h).1 hw.size,(h4 k h).2⟩
  ·exact⟨h',fun hs=>by have:=h1.lt k hs;omega⟩
theorem HasX.alloc (h:HasX X w0 w b d) (o:Obj):HasX (fun k=>X k∨k=w.heap.size) w0 (w.alloc o) b d:=
 h.nwY ((Nw.refl w).alloc o) fun k hk=>hk.imp id (fun e=>by subst e;simp)
theorem HasX.turn {S:Nat→Prop}(_hD:DiskIn w b d S) (hN:Nw w0 w) (hS:∀k,S k→w0.heap.size≤k) (hX:∀k,X k→k<w.heap.size∧¬ S k) (h:DiskTo S w w' b d'):HasX X w0 w' b d'∧Kept X w w':=by
 obtain⟨S',h1,h2,h3⟩:=h
 refine⟨⟨S',h1,hN.trans' h2 (fun k hk hs=>?_),fun k hk=>?_,fun k hk=>⟨Nat.lt_of_lt_of_le (hX k hk).1 h2.size,fun hs=>?_⟩⟩,h2.size,fun k hk hl=>h2.block k hl (hX k hk).2⟩
 ·have:=hS k hs;omega
 ·rcases h3 k hk with h|h
  ·exact hS k h
  ·have:=hN.size;omega
 ·rcases h3 k hs with h|h
  ·exact (hX k hk).2 h
  ·have:=(hX k hk).1;omega
theorem HasX.new (most:Int) (w:World) (h0:0≤most) (h1:most≤16777216):Calls Tryz.prog 22 #[.int .i64 most] w fun e w'=>∃b,e=.returned (.tuple #[.pointer (some ⟨b,0,none⟩),.int .i64 0])∧HasX (fun _=>False) w w' b (newDsk most):=
 (Has.new most w h0 h1).mono fun _ _ ⟨b,he,h⟩=>⟨b,he,h.hasX⟩
theorem HasX.append (h:HasX X w0 w b d) (n:Str) (l:List UInt8) (src:Value) (hs:Bs w src l) (hg:l≠[]→∀g,src.ownBlock=some g→X g∨g<w0.heap.size) (hnl:n.length≤9223372036854775807) (hll:l.length≤140737488355328){x:Int}(hr:d.append n l=(d',x)) :
  Calls Tryz.prog 38 #[.pointer (some ⟨b,0,none⟩),.string ⟨n.toArray⟩,src] w (DidX X w0 w b d' (.int .i64 x)):=by
 obtain⟨S,h1,h2,h3,h4⟩:=h
 have:=Append_ok h1 n l src hs (fun hne g hg' hS=>by
  rcases hg hne g hg' with h|h
  ·exact (h4 g h).2 hS
  ·have:=h3 g hS;omega) hnl hll
 rw[hr]at this
 exact this.mono fun e w' ⟨he,ht⟩=>⟨he,HasX.turn h1 h2 h3 h4 ht⟩
theorem HasX.sync (h:HasX X w0 w b d) (n:Str){x:Int}(hr:d.sync n=(d',x)) :
  Calls Tryz.prog 78 #[.pointer (some ⟨b,0,none⟩),.string ⟨n.toArray⟩] w (DidX X w0 w b d' (.int .i64 x)):=by
 obtain⟨S,h1,h2,h3,h4⟩:=h
 have:=Sync_ok h1 n
 rw[hr]at this
 exact this.mono fun e w' ⟨he,ht⟩=>⟨he,HasX.turn h1 h2 h3 h4 ht⟩
theorem HasX.remove (h:HasX X w0 w b d) (n:Str){x:Int}(hr:d.remove n=(d',x)) :
  Calls Tryz.prog 57 #[.pointer (some ⟨b,0,none⟩),.string ⟨n.toArray⟩] w (DidX X w0 w b d' (.int .i64 x)):=by
 obtain⟨S,h1,h2,h3,h4⟩:=h
 have:=Remove_ok h1 n
 rw[hr]at this
 exact this.mono fun e w' ⟨he,ht⟩=>⟨he,HasX.turn h1 h2 h3 h4 ht⟩
theorem HasX.rename (h:HasX X w0 w b d) (n t:Str) (htl:t.length≤9223372036854775807){x:Int}(hr:d.rename n t=(d',x)) :
  Calls Tryz.prog 121 #[.pointer (some ⟨b,0,none⟩),.string ⟨n.toArray⟩,.string ⟨t.toArray⟩] w (DidX X w0 w b d' (.int .i64 x)):=by
 obtain⟨S,h1,h2,h3,h4⟩:=h
 have:=Rename_ok h1 n t htl
 rw[hr]at this
 exact this.mono fun e w' ⟨he,ht⟩=>⟨he,HasX.turn h1 h2 h3 h4 ht⟩
theorem HasX.cut (h:HasX X w0 w b d) (n:Str) (k:Int){x:Int}(hr:d.cut n k=(d',x)) :
  Calls Tryz.prog 56 #[.pointer (some ⟨b,0,none⟩),.string ⟨n.toArray⟩,.int .i64 k] w (DidX X w0 w b d' (.int .i64 x)):=by
 obtain⟨S,h1,h2,h3,h4⟩:=h
 have:=Cut_ok h1 n k
 rw[hr]at this
 exact this.mono fun e w' ⟨he,ht⟩=>⟨he,HasX.turn h1 h2 h3 h4 ht⟩
theorem HasX.arm (h:HasX X w0 w b d) (k:Int) (hk:k≤9223372036854775807) (hr:d.armed k=d') :
  Calls Tryz.prog 13 #[.pointer (some ⟨b,0,none⟩),.int .i64 k] w (DidX X w0 w b d' (.tuple #[])):=by
 obtain⟨S,h1,h2,h3,h4⟩:=h
 have:=Arm_ok h1 k hk
 rw[hr]at this
 exact this.mono fun e w' ⟨he,ht⟩=>⟨he,HasX.turn h1 h2 h3 h4 ht⟩
theorem HasX.crash (h:HasX X w0 w b d) (v:Value) (ks:List Int) (hs:Rd i64v w v ks) (hg:ks≠[]→∀g,v.ownBlock=some g→X g∨g<w0.heap.size) (hr:d.crash ks=d') :
  Calls Tryz.prog 34 #[.pointer (some ⟨b,0,none⟩),v] w (DidX X w0 w b d' (.tuple #[])):=by
 obtain⟨S,h1,h2,h3,h4⟩:=h
 have:=Crash_ok h1 v ks hs (fun hne g hg' hS=>by
  rcases hg hne g hg' with h|h
  ·exact (h4 g h).2 hS
  ·have:=h3 g hS;omega)
 rw[hr]at this
 exact this.mono fun e w' ⟨he,ht⟩=>⟨he,HasX.turn h1 h2 h3 h4 ht⟩
theorem HasX.size (h:HasX X w0 w b d) (n:Str){k:Nat}(hk:(fileOf d.files n).bytes.length=k) :
  Calls Tryz.prog 41 #[.pointer (some ⟨b,0,none⟩),.string ⟨n.toArray⟩] w fun e w'=>e=.returned (.int .i64 k)∧Nw w w':=by
 obtain⟨S,h1,-⟩:=h
 subst hk;exact Size_ok h1 n
theorem HasX.read (h:HasX X w0 w b d) (n:Str){l:List UInt8}{x:Int}(hr:d.read n=(l,x)) :
  Calls Tryz.prog 53 #[.pointer (some ⟨b,0,none⟩),.string ⟨n.toArray⟩] w fun e w'=>∃v,e=.returned (.tuple #[v,.int .i64 x])∧Own w' v l∧Nw w w'∧∀g,v.ownBlock=some g→w.heap.size≤g:=by
 obtain⟨S,h1,-⟩:=h
 have:=Read_ok h1 n
 rw[hr]at this
 exact this
theorem HasX.list (h:HasX X w0 w b d){l:List Str}(hl:d.list=l) :
  Calls Tryz.prog 43 #[.pointer (some ⟨b,0,none⟩)] w fun e w'=>∃v,e=.returned v∧Ss w' v l∧Nw w w'∧∀g,v.ownBlock=some g→w.heap.size≤g:=by
 obtain⟨S,h1,-⟩:=h
 have:=List_ok h1
 rw[hl]at this
 exact this
def Two (X:Nat→Prop) (w0 w:World) (a:Nat) (da:Dsk) (b:Nat) (db:Dsk):Prop:=
 ∃S T,DiskIn w a da S∧DiskIn w b db T∧Nw w0 w∧(∀k,S k→w0.heap.size≤k)∧(∀k,T k→w0.heap.size≤k)∧(∀k,S k→¬ T k)∧∀k,X k→k<w.heap.size∧¬ S k∧¬ T k
variable {a:Nat}{da da' db:Dsk}
end
set_option maxHeartbeats 1600000
theorem vec_lit (w:World) (t:TypeId) (k n:Nat) (cs:List Value) (C:Array Value) (fz:Nat×Nat) (hC:C=cs.toArray) (hk:cs.length=n*k) (hm:n≤maxLen) (hf:∀j,j<n*k→¬ (fz.1≤j∧j<fz.2)) :
  Vec k (w.alloc (.cells C t fz)) (.slice (some ⟨w.heap.size,0,none⟩) n n) n cs:=by
 subst hC
 have hb:(w.alloc (.cells cs.toArray t fz)).heap[w.heap.size]? = some (.cells cs.toArray t fz):=heap_alloc_new w _
 refine⟨hk,.inr ⟨w.heap.size,0,n,rfl,Nat.le_refl _,hm,by simp,fun j hj=>?_,fun j hj=>?_,fun j hj=>?_⟩⟩
 ·have:j<cs.length:=by omega
  unfold World.cell?
  rw[show (⟨w.heap.size,0+j,none⟩:Addr).block=w.heap.size from rfl,hb]
  simp[this]
 ·have:=hf j hj
  unfold World.frozen?
  rw[show (⟨w.heap.size,0+j,none⟩:Addr).block=w.heap.size from rfl,hb]
  obtain⟨lo,hi⟩:=fz
  simp only[Nat.zero_add]at this ⊢
  rw[Bool.and_eq_false_iff]
  by_cases h:lo≤j
  ·right;simp;omega
  ·left;simp;omega
 ·unfold World.cell?
  rw[show (⟨w.heap.size,0+j,none⟩:Addr).block=w.heap.size from rfl,hb]
  simp[hj]
def NewE (w:World) (l:List UInt8) (e:Ending) (w':World):Prop:=∃v',e=.returned (.tuple #[v',.int .i64 0])∧Vec 1 w' v' l.length (l.map u8)∧Nw w w'∧∀g,v'.ownBlock=some g→w.heap.size≤g
theorem Head_ok (n:Nat) (hn:n≤4611686018427387904) (w:World) :
  Calls Tryz.prog 110 #[.int .i64 n] w (NewE w (headB n)):=by
 have kc:=fun (w:World) (C:Array Value) (n c:Nat)=>Go.Lib.run_convert_bytes_const (P:=Tryz.prog) w 79 5 C n c Tryz.underlying79 Tryz.underlying5
 have hm:((n:Nat):Int) % 18446744073709551616=n:=by omega
 have V0:=zH (vec_lit w 5 1 4 (([65,77,83,49]:List UInt8).map u8) _ (4,5) rfl rfl (by decide) (fun j hj=>by omega))
 go_enter Tryz.func110,Tryz.ntmps110
 go_wp2_with fail
 refine (Uint_ok (l:=[65,77,83,49]) V0.out n (by omega) (by decide)).mono ?_
 rintro e w1 ⟨v1,rfl,q1,q2,q3⟩
 have HH:Hid (headB n=sealB sumB ([65,77,83,49]++uintB n)):=zH rfl
 have HL:Hid (([65,77,83,49]++uintB n).length≤14):=zH (by
  have:=uintB_len n 10 (by omega) (Nat.lt_trans (show n<2 ^ 64 by omega) (by decide))
  simp only[List.length_append,List.length_cons,List.length_nil];omega)
 have N1:Hid (Nw w w1):=zH (((Nw.refl w).alloc _).trans' q2 (fun k hk hc=>by
  have e:w.heap.size=k:=by simpa [Value.ownBlock] using hc
  omega))
 generalize [65,77,83,49]++uintB n=l1 at *
 obtain⟨xa,xc,rfl,-⟩:=q1.len
 have Q:=zH q1
 clear q1 q2 q3
 go_wp2_with fail
 refine (Seal_ok Q.out.rd (by have:=HL.out;omega)).mono ?_
 rintro e w2 ⟨v2,rfl,q1,q2,q3⟩
 rw[←HH.out]at q1
 obtain⟨ya,yc,rfl,-⟩:=q1.len
 have P:=zH (And.intro q1 (And.intro q2 q3))
 clear q1 q2 q3
 go_wp2
 refine bodyPost_ret (v:=.tuple #[.slice ya (headB n).length yc,.int .i64 0]) (by simp[results,Tryz.results110,go_sem]) rfl ⟨_,rfl,P.out.1,N1.out.trans P.out.2.1,fun g hg=>Nat.le_trans N1.out.size (P.out.2.2 g hg)⟩
theorem named_ok (s:Str) (w:World) (hs:s.length≤9223372036854775807) :
  Calls Tryz.prog 134 #[.string ⟨s.toArray⟩] w fun e w'=>e=.returned (.bool (okPiece s))∧Nw w w':=by
 have ht:=zH (trim_calls s w hs)
 have hc:=zH (trim_nil s)
 by_cases h0:s=[]
 ·subst h0
  go_enter Tryz.func134,Tryz.ntmps134
  go_wp2
  go_ret
  exact⟨rfl,Nw.refl _⟩
 by_cases h1:s.length≤40
 ·by_cases h2:s=manifestS
  ·subst h2
   unfold manifestS
   go_enter Tryz.func134,Tryz.ntmps134
   go_wp2
   go_ret
   exact⟨rfl,Nw.refl _⟩
  by_cases h3:s=nextS
  ·subst h3
   unfold nextS
   go_enter Tryz.func134,Tryz.ntmps134
   go_wp2
   go_ret
   exact⟨rfl,Nw.refl _⟩
  have hR:Hid (okPiece s=s.all okChar):=by
   show okPiece s=_
   have hne:s.isEmpty=false:=by simpa using h0
   simp[okPiece,okName,hne,h1,h2,h3]
  have g0:(s==[])=false:=by simpa using h0
  have g2:(s==[109,97,110,105,102,101,115,116])=false:=beq_eq_false_iff_ne.2 h2
  have g3:(s==[109,97,110,105,102,101,115,116,46,110,101,119])=false:=beq_eq_false_iff_ne.2 h3
  have b0:(s !=[])=true:=by simp[bne,g0]
  have b2:(s !=[109,97,110,105,102,101,115,116])=true:=by simp[bne,g2]
  have b3:(s !=[109,97,110,105,102,101,115,116,46,110,101,119])=true:=by simp[bne,g3]
  go_enter Tryz.func134,Tryz.ntmps134
  go_wp2_with (refine ht.out.mono ?_)
  rintro e w1 ⟨rfl,hw⟩
  have hc':=hc.out
  go_wp2
  go_ret
  exact⟨by rw[hR.out];rfl,hw⟩
 ·have hR:Hid (okPiece s=false):=by show okPiece s=false;simp[okPiece,okName,h1]
  have h1':40<s.length:=by omega
  go_enter Tryz.func134,Tryz.ntmps134
  go_wp2
  go_ret
  exact⟨by rw[hR.out];rfl,Nw.refl _⟩
theorem sized_ok (n:Int){ok:Bool}(hok:ok=decide (64≤n∧n≤16777216)) (w:World):Calls Tryz.prog 66 #[.int .i64 n] w fun e w'=>e=.returned (.bool ok)∧w=w':=by
 have r:=zH hok
 clear hok
 by_cases h1:64≤n
 ·go_enter Tryz.func66,Tryz.ntmps66
  go_wp2
  go_ret
  exact⟨retB (by rw[r.out];simp[h1]),rfl⟩
 ·go_enter Tryz.func66,Tryz.ntmps66
  go_wp2
  go_ret
  exact⟨retB (by rw[r.out];simp;omega),rfl⟩
section
variable {X:Nat→Prop}{w0 w:World}{b:Nat}{d:Dsk}
theorem gone_ok (h:HasX X w0 w b d) (n:Str) :
  Calls Tryz.prog 113 #[.pointer (some ⟨b,0,none⟩),.string ⟨n.toArray⟩] w (DidX X w0 w b (d.gone n).1 (.int .i64 (d.gone n).2)):=by
 have H:=zH h
 clear h
 obtain⟨d',x,hr⟩:∃d' x,d.remove n=(d',x):=⟨_,_,rfl⟩
 have R:Hid (d.gone n=(d',if x=13 then 0 else x)):=zH (by unfold Dsk.gone;rw[hr])
 rw[R.out]
 by_cases hx:x=13
 ·subst hx
  go_enter Tryz.func113,Tryz.ntmps113
  go_wp2_with fail
  refine (H.out.remove n hr).mono ?_
  rintro e w1 ⟨rfl,q1,q2⟩
  go_wp2
  go_ret
  exact⟨rfl,q1,q2⟩
 ·have hb:(x !=13)=true:=by simpa using hx
  have e:Hid ((if x=13 then 0 else x)=x):=zH (if_neg hx)
  rw[e.out]
  go_enter Tryz.func113,Tryz.ntmps113
  go_wp2_with fail
  refine (H.out.remove n hr).mono ?_
  rintro e w1 ⟨rfl,q1,q2⟩
  go_wp2
  go_ret
  exact⟨rfl,q1,q2⟩
end
end Go.Proofs.YtkbenkldfehhlaaGreatDoor
