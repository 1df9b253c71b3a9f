/-
  Texts merged by a program of this claim's: LogI.
-/
import Derived.Test.YtkbenkldfehhlaaGreatDoorM16
namespace Go.Proofs.YtkbenkldfehhlaaGreatDoor
open Go Go.RowKit Go.Sort
set_option maxRecDepth 100000
set_option maxHeartbeats 1600000
theorem Vec.set {k n:Nat}{w:World}{g o cap:Nat}{cs:List Value}(h:Vec k w (.slice (some ⟨g,o,none⟩) n cap) n cs) (j:Nat) (hj:j<cs.length) (u:Value):Vec k (w.setCell ⟨g,o+j,none⟩ u) (.slice (some ⟨g,o,none⟩) n cap) n (cs.set j u):=by
 obtain⟨h0,⟨hv,_⟩|⟨g',o',cap',hv,h1,h2,h3,h4,h5,h6⟩⟩:=h
 ·cases hv
 ·injection hv with ea eb ec
  injection ea with ea
  injection ea with e1 e2
  subst e1 e2 ec
  refine⟨by rw[List.length_set];exact h0,.inr ⟨g,o,cap,rfl,h1,h2,by simpa using h3,fun i hi=>?_,fun i hi=>?_,fun i hi=>?_⟩⟩
  ·by_cases hij:i=j
   ·subst hij
    rw[World.cell?_setCell_same (h:=h6 i hj)];rfl
   ·rw[World.cell?_setCell_other (h:=fun e=>by injection e;omega)];exact h4 i hi
  ·rw[World.frozen?_setCell];exact h5 i hi
  ·rw[List.length_set]at hi
   by_cases hij:i=j
   ·subst hij
    rw[World.cell?_setCell_same (h:=h6 i hj)];simp
   ·rw[World.cell?_setCell_other (h:=fun e=>by injection e;omega),h6 i hi,List.getElem_set_ne (by omega)]
theorem flat_len4:∀l:List Pc,(l.flatMap pcV).length=l.length*4
 |[]=>rfl
 |q::l=>by rw[List.flatMap_cons,List.length_append,flat_len4 l];simp[pcV];omega
theorem more_flat {L:Lg}(hne:L.l≠[]):((L.l++[(⟨segName L.n,L.n,0,false⟩:Pc)]).flatMap pcV).set ((L.l.length-1)*4+2) (.int .i64 ((L.n:Int)-(lastP L.l).first))=(morePcs L).flatMap pcV:=by
 have hs:=split_last hne
 have hl:L.l.length-1=L.l.dropLast.length:=by simp
 unfold morePcs
 rw[hl]
 generalize hA:L.l.dropLast=A at *
 generalize lastP L.l=q at *
 rw[hs]
 simp only[List.flatMap_append,List.append_assoc,List.flatMap_cons,List.flatMap_nil,List.append_nil]
 rw[←flat_len4 A,List.set_append_right _ _ (by omega)]
 congr 1
 simp[pcV]
theorem more_len {L:Lg}(hne:L.l≠[]):(morePcs L).length=L.l.length+1:=by
 have:=List.length_pos_iff.2 hne
 simp[morePcs];omega
section
variable {X Y:Nat→Prop}{w0 w w':World}{p b:Nat}{d d':Dsk}{L:Lg}
theorem more_ok {L:Lg}(ho:∀q∈L.l,q.Ok) (hne:L.l≠[]) (hn:L.n≤4611686018427387904) (hf:0≤(lastP L.l).first):∀q∈morePcs L,q.Ok:=by
 intro q hq
 have hs:=split_last hne
 have hm:lastP L.l∈L.l.dropLast++[lastP L.l]:=by simp
 rw[←hs]at hm
 have hlast:(lastP L.l).Ok:=ho _ hm
 simp only[morePcs,List.mem_append,List.mem_cons,List.not_mem_nil,or_false]at hq
 have hfi:=hlast.first
 unfold in64 at hfi
 rcases hq with hq|rfl|rfl
 ·exact ho q (List.dropLast_subset _ hq)
 ·exact⟨hlast.name,hlast.first,by unfold in64;simp only;omega⟩
 ·refine⟨?_,by unfold in64;simp only;omega,by unfold in64;simp⟩
  have:=Lib.decDigits_length L.n
  have:=Lib.nDigits_le20 L.n (by omega)
  simp only[segName,List.length_cons];omega
theorem another_ok (h:HasL X w0 w p b d L) (ht:Tab w0) (hn:L.n≤4611686018427387904) (hf:0≤(lastP L.l).first) (hll:L.l.length≤1000) :
  Calls Tryz.prog 74 #[.pointer (some ⟨p,0,none⟩)] w (DidL X w0 w p b (L.another d).d (L.another d).L (.int .i64 (L.another d).e)):=by
 obtain⟨g,o,cap,h⟩:=h
 have H:=zH h
 have HT:=zH ht
 have hpl:=lt_of_block h.mem.blk
 obtain⟨c0,-,c2,c3,-⟩:=h.mem.cells
 obtain⟨m,hm⟩:∃m,L.l.length=m+1:=⟨L.l.length-1,by have:=h.mem.last.2.2.2.2.2.1;omega⟩
 have HM:=zH hm
 have hm1:L.l.length-1=m:=by omega
 rw[hm]at c2
 by_cases h100:100≤L.l.length
 ·have E:Hid (L.another d=⟨d,L,5⟩):=zH (by unfold Lg.another;rw[if_pos h100])
  rw[E.out]
  rw[hm]at h100
  clear h ht E hm hm1
  go_enter Tryz.func74,Tryz.ntmps74
  go_wp2
  go_ret
  exact⟨rfl,⟨g,o,cap,H.out⟩,Kept.refl _⟩
 obtain⟨r1,hr1⟩:=zN (d.sync (lastP L.l).name)
 obtain⟨r2,hr2⟩:=zN (r1.1.begun L.n)
 obtain⟨r3,hr3⟩:=zN (r2.1.install (morePcs L))
 have E1:Hid (r1.2≠0→L.another d=⟨r1.1,L,r1.2⟩):=zH (fun hx=>by unfold Lg.another;rw[if_neg h100,hr1,if_pos hx])
 have E2:Hid (r1.2=0→r2.2≠0→L.another d=⟨r2.1,{ L with acked:=L.n },r2.2⟩):=zH (fun h1 hx=>by unfold Lg.another;rw[if_neg h100,hr1,if_neg (by simp[h1]),hr2,if_pos hx])
 have E3:Hid (r1.2=0→r2.2=0→r3.2≠0→L.another d=⟨r3.1,{ L with acked:=L.n },r3.2⟩):=zH (fun h1 h2 hx=>by unfold Lg.another;rw[if_neg h100,hr1,if_neg (by simp[h1]),hr2,if_neg (by simp[h2]),hr3,if_pos hx])
 have E4:Hid (r1.2=0→r2.2=0→r3.2=0→L.another d=⟨r3.1,{ L with acked:=L.n,l:=morePcs L,bytes:=(headB L.n).length },0⟩):=zH (fun h1 h2 hx=>by unfold Lg.another;rw[if_neg h100,hr1,if_neg (by simp[h1]),hr2,if_neg (by simp[h2]),hr3,if_neg (by simp[hx])])
 have HR1:=zH hr1
 have HR2:=zH hr2
 have HR3:=zH hr3
 obtain⟨-,-,-,-,hg,hl0,-⟩:=h.mem.last
 have HF:=zH hf
 rw[hm]at h100 hl0 hll
 have hop:=fun W (hW:Nw w W)=>lopen_ok (H.out.nw hW).mem
 have hna:=nameAt H.out.mem
 have hla:=H.out.mem.last
 rw[hm1]at hop hna hla
 have HLA:=zH hla
 clear h ht hr1 hr2 hr3 hf hm hm1 hla
 have HO:Hid (∀W,Nw w W→Calls Tryz.prog 73 #[.pointer (some ⟨p,0,none⟩)] W fun e w'=>e=.returned (.pointer (some ⟨g,o+m*4,none⟩))∧Nw W w'):=zH hop
 have HC:Hid (∀W,Nw w W→W.cell? ⟨p,0,none⟩=some (.pointer (some ⟨b,0,none⟩))∧W.cell? ⟨g,o+m*4,none⟩=some (.string ⟨(lastP L.l).name.toArray⟩)∧p<W.heap.size∧g<W.heap.size):=zH (fun W hW=>⟨hW.cell hna.1,hW.cell hna.2.1,Nat.lt_of_lt_of_le hpl hW.size,Nat.lt_of_lt_of_le hg hW.size⟩)
 obtain⟨nm,hnm⟩:=zN ((lastP L.l).name)
 rw[hnm]at HR1 HC
 clear hnm
 go_enter Tryz.func74,Tryz.ntmps74
 go_upto_region 3 with fail
 clear c0 c2 c3 hop hna
 refine wp_region_steps 10 [.rd 0,.rd 1,.rd 2,.rd 3,.rd 4,.dn 5,.rd 6,.rd 7,.rd 8,.dn 9] [10] (fun x=>x.cell? ⟨p,0,none⟩=some (.pointer (some ⟨b,0,none⟩))∧x.cell? ⟨g,o+m*4,none⟩=some (.string ⟨nm.toArray⟩)∧p<x.heap.size∧g<x.heap.size) (by kernel_rfl) (by kernel_rfl) (fun _ _ _ _ _ h=>h) (HC.out _ ((Nw.refl w).drew)) ?_
 refine stp_to (.pointer (some ⟨p,0,none⟩)) rfl rfl rfl (fun x hx=>by go_simp) (fun K hK=>?_);go_simp;refine hK _ ?_;clear hK K
 refine stp_to (.pointer (some ⟨p,0,none⟩)) rfl rfl rfl (fun x hx=>by obtain⟨e1,e2,e3,e4⟩:=hx;go_simp) (fun K hK=>?_);go_simp;refine hK _ ?_;clear hK K
 refine stp_to (.pointer (some ⟨p,0,none⟩)) rfl rfl rfl (fun x hx=>by obtain⟨e1,e2,e3,e4⟩:=hx;go_simp) (fun K hK=>?_);go_simp;refine hK _ ?_;clear hK K
 refine stp_to (.pointer (some ⟨b,0,none⟩)) rfl rfl rfl (fun x hx=>by obtain⟨e1,e2,e3,e4⟩:=hx;go_simp) (fun K hK=>?_);go_simp;refine hK _ ?_;clear hK K
 refine stp_to (.pointer (some ⟨p,0,none⟩)) rfl rfl rfl (fun x hx=>by go_simp) (fun K hK=>?_);go_simp;refine hK _ ?_;clear hK K
 refine stp_dn rfl (fun K hK=>?_)
 go_wp2_with fail
 go_at_call 73
 refine (HO.out _ ((Nw.refl w).drew)).mono ?_
 rintro e w1 ⟨rfl,n1⟩
 have N1:=zH (((Nw.refl w).drew).trans n1)
 clear n1
 go_wp2
 refine hK _ _ (HC.out _ N1.out) ?_;clear hK K
 refine stp_to (.pointer (some ⟨g,o+m*4,none⟩)) rfl rfl rfl (fun x hx=>by obtain⟨e1,e2,e3,e4⟩:=hx;go_simp) (fun K hK=>?_);go_simp;refine hK _ ?_;clear hK K
 refine stp_to (.pointer (some ⟨g,o+m*4,none⟩)) rfl rfl rfl (fun x hx=>by obtain⟨e1,e2,e3,e4⟩:=hx;go_simp) (fun K hK=>?_);go_simp;refine hK _ ?_;clear hK K
 refine stp_to (.string ⟨nm.toArray⟩) rfl rfl rfl (fun x hx=>by obtain⟨e1,e2,e3,e4⟩:=hx;go_simp) (fun K hK=>?_);go_simp;refine hK _ ?_;clear hK K
 have H1:=zH (H.out.nw N1.out)
 refine stp_dn rfl (fun K hK=>?_)
 go_wp2_with fail
 go_at_call 78
 refine (H1.out.disk.sync nm (by rw[HR1.out])).mono ?_
 rintro e w2 ⟨rfl,q1,q2⟩
 have H2:=zH (H1.out.disk' q1 q2)
 have K2:Hid (Kept X w w2):=zH (N1.out.kept.trans (q2.weak fun k hk=>.inl hk))
 have hc2:w2.cell? ⟨p,0,none⟩=some (.pointer (some ⟨b,0,none⟩))∧w2.cell? ⟨g,o+m*4,none⟩=some (.string ⟨nm.toArray⟩)∧p<w2.heap.size∧g<w2.heap.size:=by
  obtain⟨e1,e2,e3,e4⟩:=HC.out _ N1.out
  exact⟨q2.cell e1 (.inr (.inl rfl)),q2.cell e2 (.inr (.inr rfl)),Nat.lt_of_lt_of_le e3 q2.1,Nat.lt_of_lt_of_le e4 q2.1⟩
 clear q1 q2
 go_wp2
 refine hK _ _ hc2 ?_;clear hK K hc2
 refine wpSteps_nil ?_
 refine stp_do rfl (by decide) (fun K hK=>?_)
 go_wp2
 (try (refine hK _ _ ?_;clear hK K))
 refine wpNums_nil ?_
 clear HC
 by_cases hx1:r1.2=0
 case neg =>
  have E:=zH (E1.out hx1)
  have hb:(r1.2 !=0)=true:=by simpa using hx1
  clear hx1
  go_wp2
  go_ret
  rw[E.out]
  exact⟨rfl,⟨g,o,cap,H2.out⟩,K2.out⟩
 have HX1:=zH hx1
 obtain⟨d1,x1⟩:=r1
 simp only at hx1
 subst hx1
 obtain⟨-,-,-,c3,c4,-,-,cf⟩:=H2.out.mem.cells
 have f4:=cf 4
 have hp2:=lt_of_block H2.out.mem.blk
 have hb:=heap_setCell_at H2.out.mem.blk 4 (.int .i64 L.n)
 have hput:=H2.out.put { L with acked:=L.n } (W:=w2.setCell ⟨p,4,none⟩ (.int .i64 L.n)) (Only.setCell (S:=fun k=>k=p) (p:=⟨p,4,none⟩) (Only.refl w2) (fun _=>rfl) _) (by rw[hb];rfl) rfl
 have HPUT:=zH hput
 have T3:Hid (Tab (w2.setCell ⟨p,4,none⟩ (.int .i64 L.n))):=zH (HT.out.nw hput.1.disk.base)
 clear cf hb hput
 go_upto_region 7 with fail
 clear c3 c4 f4
 generalize w2.setCell ⟨p,4,none⟩ (.int .i64 L.n)=w3 at HPUT T3 ⊢
 have hp3:=lt_of_block HPUT.out.1.mem.blk
 have hc3:∀W,Nw w3 W→W.cell? ⟨p,0,none⟩=some (.pointer (some ⟨b,0,none⟩))∧W.cell? ⟨p,3,none⟩=some (.int .i64 L.n)∧p<W.heap.size:=fun W hW=>⟨hW.cell HPUT.out.1.mem.cells.1,hW.cell HPUT.out.1.mem.cells.2.2.2.1,Nat.lt_of_lt_of_le hp3 hW.size⟩
 refine wp_region_steps 15 [.rd 0,.rd 1,.rd 2,.rd 3,.rd 4,.rd 5,.rd 6,.rd 7,.dn 8,.rd 9,.rd 10,.rd 11,.rd 12,.dn 13,.dn 14] [15] (fun x=>x.cell? ⟨p,0,none⟩=some (.pointer (some ⟨b,0,none⟩))∧x.cell? ⟨p,3,none⟩=some (.int .i64 L.n)∧p<x.heap.size) (by kernel_rfl) (by kernel_rfl) (fun _ _ _ _ _ h=>h) (hc3 _ ((Nw.refl w3).drew)) ?_
 refine stp_to (.pointer (some ⟨p,0,none⟩)) rfl rfl rfl (fun x hx=>by go_simp) (fun K hK=>?_);go_simp;refine hK _ ?_;clear hK K
 refine stp_to (.pointer (some ⟨p,0,none⟩)) rfl rfl rfl (fun x hx=>by obtain⟨e1,e2,e3⟩:=hx;go_simp) (fun K hK=>?_);go_simp;refine hK _ ?_;clear hK K
 refine stp_to (.pointer (some ⟨p,0,none⟩)) rfl rfl rfl (fun x hx=>by obtain⟨e1,e2,e3⟩:=hx;go_simp) (fun K hK=>?_);go_simp;refine hK _ ?_;clear hK K
 refine stp_to (.pointer (some ⟨b,0,none⟩)) rfl rfl rfl (fun x hx=>by obtain⟨e1,e2,e3⟩:=hx;go_simp) (fun K hK=>?_);go_simp;refine hK _ ?_;clear hK K
 refine stp_to (.pointer (some ⟨p,0,none⟩)) rfl rfl rfl (fun x hx=>by go_simp) (fun K hK=>?_);go_simp;refine hK _ ?_;clear hK K
 refine stp_to (.pointer (some ⟨p,0,none⟩)) rfl rfl rfl (fun x hx=>by obtain⟨e1,e2,e3⟩:=hx;go_simp) (fun K hK=>?_);go_simp;refine hK _ ?_;clear hK K
 refine stp_to (.pointer (some ⟨p,3,none⟩)) rfl rfl rfl (fun x hx=>by obtain⟨e1,e2,e3⟩:=hx;go_simp) (fun K hK=>?_);go_simp;refine hK _ ?_;clear hK K
 refine stp_to (.int .i64 L.n) rfl rfl rfl (fun x hx=>by obtain⟨e1,e2,e3⟩:=hx;go_simp) (fun K hK=>?_);go_simp;refine hK _ ?_;clear hK K
 refine stp_dn rfl (fun K hK=>?_)
 go_wp2_with fail
 go_at_call 67
 have H3:=zH (HPUT.out.1.nw ((Nw.refl w3).drew))
 refine (begin_ok H3.out.disk L.n hn (T3.out.nw ((Nw.refl w3).drew))).mono ?_
 rintro e w4 ⟨rfl,q1,q2⟩
 have HR2':d1.begun L.n=r2:=HR2.out
 rw[HR2']at q1 ⊢
 have H4:=zH (H3.out.disk' q1 q2)
 have K4:Hid (Kept X w w4):=zH ((K2.out.trans HPUT.out.2).trans (((Nw.refl w3).drew).kept.trans (q2.weak fun k hk=>.inl hk)))
 have hc4:w4.cell? ⟨p,0,none⟩=some (.pointer (some ⟨b,0,none⟩))∧w4.cell? ⟨p,3,none⟩=some (.int .i64 L.n)∧p<w4.heap.size:=⟨H4.out.mem.cells.1,H4.out.mem.cells.2.2.2.1,lt_of_block H4.out.mem.blk⟩
 clear q1 q2 hc3 hp3
 obtain⟨sn,hsn⟩:=zN (segName L.n)
 obtain⟨hb,hhb⟩:=zN ((headB L.n).length)
 rw[hsn,hhb]
 have ES:=zH hsn
 have EH:=zH hhb
 clear hsn hhb HR2'
 go_wp2
 have HC4:=zH hc4
 refine hK _ _ hc4 ?_;clear hK K hc4
 refine stp_to (.tuple #[.string ⟨sn.toArray⟩,.int .i64 hb,.int .i64 r2.2]) rfl rfl rfl (fun x hx=>by go_simp) (fun K hK=>?_);go_simp;refine hK _ ?_;clear hK K
 refine stp_to (.string ⟨sn.toArray⟩) rfl rfl rfl (fun x hx=>by go_simp) (fun K hK=>?_);go_simp;refine hK _ ?_;clear hK K
 refine stp_to (.int .i64 hb) rfl rfl rfl (fun x hx=>by go_simp) (fun K hK=>?_);go_simp;refine hK _ ?_;clear hK K
 refine stp_to (.int .i64 r2.2) rfl rfl rfl (fun x hx=>by go_simp) (fun K hK=>?_);go_simp;refine hK _ ?_;clear hK K
 refine stp_dn rfl (fun K hK=>?_)
 go_wp2
 refine hK _ _ HC4.out ?_;clear hK K
 refine stp_dn rfl (fun K hK=>?_)
 go_wp2
 refine hK _ _ HC4.out ?_;clear hK K
 refine wpSteps_nil ?_
 refine stp_do rfl (by decide) (fun K hK=>?_)
 go_wp2
 (try (refine hK _ _ ?_;clear hK K))
 refine wpNums_nil ?_
 by_cases hx2:r2.2=0
 case neg =>
  have E:=zH (E2.out (by first|trivial|rfl) hx2)
  have hbq:(r2.2 !=0)=true:=by simpa using hx2
  clear hx2
  go_wp2
  go_ret
  rw[E.out]
  exact⟨rfl,⟨g,o,cap,H4.out⟩,K4.out⟩
 have HX2:=zH hx2
 have hb2:(r2.2 !=0)=false:=by simpa using hx2
 clear hx2
 go_upto_region 10 with fail
 obtain⟨e0,-,e2,e3,-⟩:=H4.out.mem.cells
 have hm2:L.l.length=m+1:=HM.out
 rw[show ({ L with acked:=L.n }:Lg).l.length=m+1 from hm2]at e2
 have hc5:∀W,Nw w4 W→W.cell? ⟨p,0,none⟩=some (.pointer (some ⟨b,0,none⟩))∧W.cell? ⟨p,2,none⟩=some (.slice (some ⟨g,o,none⟩) (m+1) cap)∧W.cell? ⟨p,3,none⟩=some (.int .i64 L.n)∧p<W.heap.size:=fun W hW=>⟨hW.cell e0,hW.cell e2,hW.cell e3,Nat.lt_of_lt_of_le (lt_of_block H4.out.mem.blk) hW.size⟩
 have HC5:=zH hc5
 clear hc5 e0 e2 e3 hm2 HC4
 refine wp_region_fork 13 [.rd 0,.rd 1,.rd 2,.rd 3,.rd 5,.rd 6,.rd 7,.rd 8,.rd 9,.rd 10] 4 11 [.dn 11,.dn 12] [.dn 4,.dn 12] [13] (fun x=>x.cell? ⟨p,0,none⟩=some (.pointer (some ⟨b,0,none⟩))∧x.cell? ⟨p,2,none⟩=some (.slice (some ⟨g,o,none⟩) (m+1) cap)∧x.cell? ⟨p,3,none⟩=some (.int .i64 L.n)∧p<x.heap.size) (by kernel_rfl) (by kernel_rfl) (fun _ _ _ _ _ h=>h) (HC5.out _ ((Nw.refl w4).drew)) ?_
 refine stp_to (.pointer (some ⟨p,0,none⟩)) rfl rfl rfl (fun x hx=>by go_simp) (fun K hK=>?_);go_simp;refine hK _ ?_;clear hK K
 refine stp_to (.pointer (some ⟨p,0,none⟩)) rfl rfl rfl (fun x hx=>by obtain⟨e1,e2,e3,e4⟩:=hx;go_simp) (fun K hK=>?_);go_simp;refine hK _ ?_;clear hK K
 refine stp_to (.pointer (some ⟨p,2,none⟩)) rfl rfl rfl (fun x hx=>by obtain⟨e1,e2,e3,e4⟩:=hx;go_simp) (fun K hK=>?_);go_simp;refine hK _ ?_;clear hK K
 refine stp_to (.slice (some ⟨g,o,none⟩) (m+1) cap) rfl rfl rfl (fun x hx=>by obtain⟨e1,e2,e3,e4⟩:=hx;go_simp) (fun K hK=>?_);go_simp;refine hK _ ?_;clear hK K
 refine stp_to (.string ⟨sn.toArray⟩) rfl rfl rfl (fun x hx=>by go_simp) (fun K hK=>?_);go_simp;refine hK _ ?_;clear hK K
 refine stp_to (.pointer (some ⟨p,0,none⟩)) rfl rfl rfl (fun x hx=>by go_simp) (fun K hK=>?_);go_simp;refine hK _ ?_;clear hK K
 refine stp_to (.pointer (some ⟨p,0,none⟩)) rfl rfl rfl (fun x hx=>by obtain⟨e1,e2,e3,e4⟩:=hx;go_simp) (fun K hK=>?_);go_simp;refine hK _ ?_;clear hK K
 refine stp_to (.pointer (some ⟨p,3,none⟩)) rfl rfl rfl (fun x hx=>by obtain⟨e1,e2,e3,e4⟩:=hx;go_simp) (fun K hK=>?_);go_simp;refine hK _ ?_;clear hK K
 refine stp_to (.int .i64 L.n) rfl rfl rfl (fun x hx=>by obtain⟨e1,e2,e3,e4⟩:=hx;go_simp) (fun K hK=>?_);go_simp;refine hK _ ?_;clear hK K
 refine stp_to (.agg #[.string ⟨sn.toArray⟩,.int .i64 L.n,.int .i64 0,.bool false]) rfl rfl rfl (fun x hx=>by go_simp) (fun K hK=>?_);go_simp;refine hK _ ?_;clear hK K
 refine wpSteps_nil ?_
 have P4:=zH H4.out.mem.pcs
 have hm2:L.l.length=m+1:=HM.out
 rw[show ({ L with acked:=L.n }:Lg).l.length=m+1 from hm2,show ({ L with acked:=L.n }:Lg).l=L.l from rfl]at P4
 clear hm2
 obtain⟨i0,hi,hz0,hz1,hz2⟩:=info_parts infoPc
 have HI:=zH hi
 have HZ0:=zH hz0
 have HZ1:=zH hz1
 have HZ2:=zH hz2
 clear hi hz0 hz1 hz2
 have HO6:Hid (∀W,Nw w4 W→Calls Tryz.prog 73 #[.pointer (some ⟨p,0,none⟩)] W fun e w'=>e=.returned (.pointer (some ⟨g,o+m*4,none⟩))∧Nw W w'):=zH (by
  have hm1:L.l.length-1=m:=by have:=HM.out;omega
  have:=fun W (hW:Nw w4 W)=>lopen_ok (H4.out.nw hW).mem
  rw[show ({ L with acked:=L.n }:Lg).l.length-1=m from hm1]at this
  exact this)
 obtain⟨fi,hfi⟩:=zN ((lastP L.l).first)
 have HC6:Hid (∀W,Nw w4 W→W.cell? ⟨g,o+m*4+1,none⟩=some (.int .i64 fi)∧g<W.heap.size):=zH (by
  have hla:=H4.out.mem.last
  have hm1:L.l.length-1=m:=by have:=HM.out;omega
  rw[show ({ L with acked:=L.n }:Lg).l.length-1=m from hm1,show ({ L with acked:=L.n }:Lg).l=L.l from rfl,hfi]at hla
  exact fun W hW=>⟨hW.cell hla.2.1,Nat.lt_of_lt_of_le hla.2.2.2.2.1 hW.size⟩)
 have hne:L.l≠[]:=by have:=HM.out;intro h;rw[h]at this;simp at this
 have hpos:0≤fi:=by have:=HF.out;rw[hfi]at this;exact this
 have HIN:Hid (-9223372036854775808≤fi∧fi≤9223372036854775807):=zH (by
  have hm:lastP L.l∈L.l.dropLast++[lastP L.l]:=by simp
  rw[←split_last hne]at hm
  have:=(P4.out.ok _ hm).first
  rw[hfi]at this
  exact this)
 have HFI:=zH hfi
 have HNE:=zH hne
 have HPS:=zH hpos
 clear hfi hne hpos
 refine⟨?_,?_⟩
 ·refine stp_dn rfl (fun K hK=>?_)
  go_wp2_with fail
  go_at_call 63
  refine (PClone_ok (P4.out.nw ((Nw.refl w4).drew)) (by have:=HM.out;omega)).mono ?_
  rintro e w5 ⟨v5,rfl,q1,q2,q3⟩
  rw[HM.out]at q1
  obtain⟨xa,xc,rfl,-⟩:=q1.len
  have N5a:=zH (((Nw.refl w4).drew).trans q2)
  have V5:=zH (q1.nw ((Nw.refl w5).alloc (.cells #[.string ⟨sn.toArray⟩,.int .i64 L.n,.int .i64 0,.bool false] 98 (0,0))))
  have S5:=zH (src_lit w5 98 (0,0) 4 1 1 ([.string ⟨sn.toArray⟩,.int .i64 L.n,.int .i64 0,.bool false]:List Value) rfl (by omega) (by decide))
  have N5:=zH (N5a.out.alloc (.cells #[.string ⟨sn.toArray⟩,.int .i64 L.n,.int .i64 0,.bool false] 98 (0,0)))
  have F5:Hid (∀j,(Value.slice xa (m+1) xc).ownBlock=some j→w4.heap.size≤j):=zH (fun j hj=>q3 j hj)
  clear q1 q2 q3
  go_wp2
  refine hK _ _ (HC5.out _ N5a.out) ?_;clear hK K
  refine stp_dn rfl (fun K hK=>?_)
  go_wp2
  refine hK _ _ (HC5.out _ N5.out) ?_;clear hK K
  refine stp_dn rfl (fun K hK=>?_)
  refine (wpList_append_vec rfl _ _ 32 rfl 98 i0 (.agg #[.string ⟨#[]⟩,.int .i64 0,.int .i64 0,.bool false]) 4 40 Tryz.underlying32 HI.out HZ0.out HZ1.out HZ2.out rfl (by decide) rfl rfl V5.out S5.out ?c1 ?c2 ?c3 ?_)
  case c1 =>
   intro u hu
   simp only[List.mem_cons,List.not_mem_nil,or_false]at hu
   rcases hu with rfl|rfl|rfl|rfl <;> rfl
  case c2=>unfold maxLen;omega
  case c3=>omega
  intro v6 w6 q1 q2 q3
  obtain⟨g6,o6,c6,rfl⟩:∃g6 o6 c6,v6=.slice (some ⟨g6,o6,none⟩) (m+1+1) c6:=by
   obtain⟨-,⟨-,hz⟩|⟨g6,o6,c6,hv,-⟩⟩:=q1
   ·omega
   ·exact⟨g6,o6,c6,hv⟩
  have P6:Hid (Vec 4 w6 (.slice (some ⟨g6,o6,none⟩) (m+1+1) c6) (m+1+1) (L.l.flatMap pcV++([.string ⟨sn.toArray⟩,.int .i64 L.n,.int .i64 0,.bool false]:List Value))∧Nw w4 w6∧w4.heap.size≤g6):=zH (by
   refine⟨q1,N5.out.trans' q2 (fun k hk hc=>by have:=F5.out k hc;omega),?_⟩
   rcases q3 with h|h
   ·exact F5.out g6 (by have h':some g6=(Value.slice xa (m+1) xc).ownBlock:=h;exact h'.symm)
   ·exact Nat.le_trans N5.out.size (h g6 rfl))
  clear q1 q2 q3 V5 S5 N5 F5
  go_wp2
  refine hK _ _ (HC5.out _ P6.out.2.1) ?_;clear hK K
  refine wpSteps_nil ?_
  refine stp_do rfl (by decide) (fun K hK=>?_)
  go_wp2
  (try (refine hK _ _ ?_;clear hK K))
  refine wpNums_nil ?_
  go_upto_region 11 with fail
  have hwm:IntKind.i64.wrap (m:Int)=m:=IntWalk.i64_in _ (by omega)
  have hwn:IntKind.i64.wrap ((L.n:Int)-fi)=L.n-fi:=IntWalk.i64_in _ (by have:=HIN.out;have:=HPS.out;omega)
  have hc11:∀W,Nw w6 W→(W.cell? ⟨p,2,none⟩=some (.slice (some ⟨g,o,none⟩) (m+1) cap)∧W.cell? ⟨p,3,none⟩=some (.int .i64 L.n)∧W.cell? ⟨g,o+m*4+1,none⟩=some (.int .i64 fi))∧p<W.heap.size∧g<W.heap.size∧g6<W.heap.size:=fun W hW=>by
   obtain⟨-,a2,a3,a4⟩:=HC5.out _ (P6.out.2.1.trans hW)
   obtain⟨b1,b2⟩:=HC6.out _ (P6.out.2.1.trans hW)
   exact⟨⟨a2,a3,b1⟩,a4,b2,Nat.lt_of_lt_of_le (P6.out.1.lt g6 rfl) hW.size⟩
  have HC11:=zH hc11
  clear hc11
  refine wp_region_steps 17 [.rd 0,.rd 1,.rd 2,.rd 3,.rd 4,.rd 5,.rd 6,.rd 7,.rd 8,.rd 9,.rd 10,.rd 11,.dn 12,.rd 13,.rd 14,.rd 15,.rd 16] [17,18,19] (fun x=>(x.cell? ⟨p,2,none⟩=some (.slice (some ⟨g,o,none⟩) (m+1) cap)∧x.cell? ⟨p,3,none⟩=some (.int .i64 L.n)∧x.cell? ⟨g,o+m*4+1,none⟩=some (.int .i64 fi))∧p<x.heap.size∧g<x.heap.size∧g6<x.heap.size) (by kernel_rfl) (by kernel_rfl) (fun _ _ _ _ _ h=>h) (HC11.out _ ((Nw.refl w6).drew)) ?_
  refine stp_to (.slice (some ⟨g6,o6,none⟩) (m+1+1) c6) rfl rfl rfl (fun x hx=>by go_simp) (fun K hK=>?_);go_simp;refine hK _ ?_;clear hK K
  refine stp_to (.pointer (some ⟨p,0,none⟩)) rfl rfl rfl (fun x hx=>by go_simp) (fun K hK=>?_);go_simp;refine hK _ ?_;clear hK K
  refine stp_to (.pointer (some ⟨p,0,none⟩)) rfl rfl rfl (fun x hx=>by obtain⟨⟨e1,e2,e3⟩,e4,e5,e6⟩:=hx;go_simp) (fun K hK=>?_);go_simp;refine hK _ ?_;clear hK K
  refine stp_to (.pointer (some ⟨p,2,none⟩)) rfl rfl rfl (fun x hx=>by obtain⟨⟨e1,e2,e3⟩,e4,e5,e6⟩:=hx;go_simp) (fun K hK=>?_);go_simp;refine hK _ ?_;clear hK K
  refine stp_to (.slice (some ⟨g,o,none⟩) (m+1) cap) rfl rfl rfl (fun x hx=>by obtain⟨⟨e1,e2,e3⟩,e4,e5,e6⟩:=hx;go_simp) (fun K hK=>?_);go_simp;refine hK _ ?_;clear hK K
  refine stp_to (.int .i64 ((m:Int)+1)) rfl rfl rfl (fun x hx=>by go_simp) (fun K hK=>?_);go_simp;refine hK _ ?_;clear hK K
  refine stp_to (.int .i64 m) rfl rfl rfl (fun x hx=>by go_simp) (fun K hK=>?_);go_simp;refine hK _ ?_;clear hK K
  refine stp_to (.pointer (some ⟨p,0,none⟩)) rfl rfl rfl (fun x hx=>by go_simp) (fun K hK=>?_);go_simp;refine hK _ ?_;clear hK K
  refine stp_to (.pointer (some ⟨p,0,none⟩)) rfl rfl rfl (fun x hx=>by obtain⟨⟨e1,e2,e3⟩,e4,e5,e6⟩:=hx;go_simp) (fun K hK=>?_);go_simp;refine hK _ ?_;clear hK K
  refine stp_to (.pointer (some ⟨p,3,none⟩)) rfl rfl rfl (fun x hx=>by obtain⟨⟨e1,e2,e3⟩,e4,e5,e6⟩:=hx;go_simp) (fun K hK=>?_);go_simp;refine hK _ ?_;clear hK K
  refine stp_to (.int .i64 L.n) rfl rfl rfl (fun x hx=>by obtain⟨⟨e1,e2,e3⟩,e4,e5,e6⟩:=hx;go_simp) (fun K hK=>?_);go_simp;refine hK _ ?_;clear hK K
  refine stp_to (.pointer (some ⟨p,0,none⟩)) rfl rfl rfl (fun x hx=>by go_simp) (fun K hK=>?_);go_simp;refine hK _ ?_;clear hK K
  refine stp_dn rfl (fun K hK=>?_)
  go_wp2_with fail
  go_at_call 73
  refine (HO6.out _ (P6.out.2.1.trans ((Nw.refl w6).drew))).mono ?_
  rintro e w7 ⟨rfl,n7⟩
  have N7:=zH (((Nw.refl w6).drew).trans n7)
  clear n7
  go_wp2
  refine hK _ _ (HC11.out _ N7.out) ?_;clear hK K
  refine stp_to (.pointer (some ⟨g,o+m*4,none⟩)) rfl rfl rfl (fun x hx=>by obtain⟨⟨e1,e2,e3⟩,e4,e5,e6⟩:=hx;go_simp) (fun K hK=>?_);go_simp;refine hK _ ?_;clear hK K
  refine stp_to (.pointer (some ⟨g,o+m*4+1,none⟩)) rfl rfl rfl (fun x hx=>by obtain⟨⟨e1,e2,e3⟩,e4,e5,e6⟩:=hx;go_simp) (fun K hK=>?_);go_simp;refine hK _ ?_;clear hK K
  refine stp_to (.int .i64 fi) rfl rfl rfl (fun x hx=>by obtain⟨⟨e1,e2,e3⟩,e4,e5,e6⟩:=hx;go_simp) (fun K hK=>?_);go_simp;refine hK _ ?_;clear hK K
  refine stp_to (.int .i64 ((L.n:Int)-fi)) rfl rfl rfl (fun x hx=>by go_simp) (fun K hK=>?_);go_simp;refine hK _ ?_;clear hK K
  refine wpSteps_nil ?_
  have V7:=zH (P6.out.1.nw N7.out)
  have hlen7:m*4+2<(L.l.flatMap pcV++([.string ⟨sn.toArray⟩,.int .i64 L.n,.int .i64 0,.bool false]:List Value)).length:=by rw[List.length_append,flat_len4,HM.out];simp;omega
  have hv8:=V7.out.set (m*4+2) hlen7 (.int .i64 ((L.n:Int)-fi))
  rw[←Nat.add_assoc]at hv8
  have hmf:(L.l.flatMap pcV++([.string ⟨sn.toArray⟩,.int .i64 L.n,.int .i64 0,.bool false]:List Value)).set (m*4+2) (.int .i64 ((L.n:Int)-fi))=(morePcs L).flatMap pcV:=by
   have:=more_flat HNE.out
   rw[List.flatMap_append,HFI.out,show L.l.length-1=m by have:=HM.out;omega]at this
   rw[←this,←ES.out];rfl
  rw[hmf]at hv8
  have hn8:Nw w4 (w7.setCell ⟨g6,o6+m*4+2,none⟩ (.int .i64 ((L.n:Int)-fi))):=Only.setCell (S:=fun _=>False) (P6.out.2.1.trans N7.out) (fun h=>by have h2:g6<w4.heap.size:=h;have:=P6.out.2.2;omega) _
  have PV8:=zH (And.intro hv8 hn8)
  obtain⟨cg,hcg,fg⟩:∃u,w7.cell? ⟨g6,o6+m*4+2,none⟩=some u∧w7.frozen? ⟨g6,o6+m*4+2,none⟩=false:=by
   obtain⟨-,⟨hz,-⟩|⟨g',o',c',hv,h1,h2,h3,h4,h5,h6⟩⟩:=V7.out
   ·cases hz
   ·injection hv with ea eb ec
    injection ea with ea
    injection ea with e1 e2
    subst e1 e2 ec
    rw[Nat.add_assoc]
    exact⟨_,h6 _ hlen7,h5 _ (by omega)⟩
  have hg6:g6<w7.heap.size:=World.block_lt_of_cell? _ _ hcg
  clear hv8 hmf hn8 hlen7 V7
  refine stp_do rfl (by decide) (fun K hK=>?_)
  go_wp2
  (try (refine hK _ _ ?_;clear hK K))
  refine stp_do rfl (by decide) (fun K hK=>?_)
  go_wp2
  (try (refine hK _ _ ?_;clear hK K))
  refine stp_do rfl (by decide) (fun K hK=>?_)
  go_wp2
  (try (refine hK _ _ ?_;clear hK K))
  refine wpNums_nil ?_
  clear hcg fg hwm hwn
  generalize w7.setCell ⟨g6,o6+m*4+2,none⟩ (.int .i64 ((L.n:Int)-fi))=w8 at PV8 ⊢
  obtain⟨a0,-,-,a3⟩:=HC5.out w8 PV8.out.2
  have HML:Hid ((morePcs L).length=m+1+1):=zH (by rw[more_len HNE.out,HM.out])
  have PC8:Hid (Pcs w8 (.slice (some ⟨g6,o6,none⟩) (m+1+1) c6) (morePcs L)):=zH (by
   have:=PV8.out.1.src
   exact⟨by rw[HML.out];exact this,more_ok P4.out.ok HNE.out hn (by rw[HFI.out];exact HPS.out)⟩)
  obtain⟨Y,hY⟩:∃Y:Nat→Prop,Y=fun k=>(X k∨k=p∨k=g)∨w4.heap.size≤k∧k<w8.heap.size:=⟨_,rfl⟩
  have D8:Hid (HasX Y w0 w8 b r2.1):=zH (H4.out.disk.nwY PV8.out.2 (fun k hk=>by rw[hY]at hk;exact hk))
  have HY:=zH hY
  clear hY
  go_wp2_with fail
  refine (Install_ok D8.out PC8.out).mono ?_
  rintro e w9 ⟨rfl,q1,q2⟩
  have hr3:r2.1.install (morePcs L)=r3:=HR3.out
  rw[hr3]at q1 ⊢
  have D9:=zH q1
  have K9:=zH q2
  have H9:=zH ((H4.out.nw PV8.out.2).disk' (q1.weak fun k hk=>by rw[HY.out];exact .inl hk) (q2.weak fun k hk=>by rw[HY.out];exact .inl hk))
  have KX9:Hid (Kept X w w9):=zH ((K4.out.trans PV8.out.2.kept).trans (q2.weak fun k hk=>by rw[HY.out];exact .inl (.inl hk)))
  clear q1 q2 hr3 a0 a3
  by_cases hx3:r3.2=0
  case neg =>
   have E:=zH (E3.out (by first|trivial|rfl) HX2.out hx3)
   have hbq:(r3.2 !=0)=true:=by simpa using hx3
   clear hx3
   go_wp2
   go_ret
   rw[E.out]
   exact⟨rfl,⟨g,o,cap,H9.out⟩,KX9.out⟩
  have E:=zH (E4.out (by first|trivial|rfl) HX2.out hx3)
  have hbq:(r3.2 !=0)=false:=by simpa using hx3
  clear hx3
  obtain⟨-,-,z2,-,-,z5,-,zf⟩:=H9.out.mem.cells
  have zf2:=zf 2
  have zf5:=zf 5
  have hp9:=lt_of_block H9.out.mem.blk
  clear zf
  go_wp2
  go_ret
  rw[E.out]
  have hb1:=heap_setCell_at (heap_setCell_at H9.out.mem.blk 2 (.slice (some ⟨g6,o6,none⟩) (m+1+1) c6)) 5 (.int .i64 hb)
  have hon:Only (fun k=>k=p) w9 ((w9.setCell ⟨p,2,none⟩ (.slice (some ⟨g6,o6,none⟩) (m+1+1) c6)).setCell ⟨p,5,none⟩ (.int .i64 hb)):=by
   refine Only.setCell (S:=fun k=>k=p) (p:=⟨p,5,none⟩) ?_ (fun _=>rfl) _
   exact Only.setCell (S:=fun k=>k=p) (p:=⟨p,2,none⟩) (Only.refl w9) (fun _=>rfl) _
  have hgY:Y g6:=by rw[HY.out];exact .inr ⟨P6.out.2.2,by have:=PV8.out.1.lt g6 rfl;exact this⟩
  have hpY:Y p:=by rw[HY.out];exact .inl (.inr (.inl rfl))
  have hgp:g6≠p:=by have:=lt_of_block H4.out.mem.blk;have:=P6.out.2.2;omega
  have hw40:=H4.out.disk.base.size
  refine⟨rfl,⟨g6,o6,c6,⟨⟨?_,?_,?_⟩,?_,H4.out.p0,H4.out.p1,by have:=P6.out.2.2;omega,hgp,fun hx=>by have:=H4.out.disk.lt _ (.inl hx);have:=P6.out.2.2;omega⟩⟩,KX9.out.trans ⟨hon.size,fun k hk hlt=>hon.block k hlt (fun e=>H4.out.p1 (e▸hk))⟩⟩
  ·rw[hb1]
   simp only[HML.out,EH.out]
   rfl
  ·have hpc:=PC8.out
   refine⟨?_,hpc.ok⟩
   have hs:=hpc.src
   simp only[HML.out]at hs ⊢
   obtain⟨e,⟨a,hv,hz⟩|⟨g',o',cap',hv,h1,h2,h3,h4⟩⟩:=hs
   ·cases hv
   ·injection hv with ea eb ec
    injection ea with ea
    injection ea with e1 e2
    subst e1 e2 ec
    exact⟨e,.inr ⟨g6,o6,c6,rfl,h1,h2,Nat.lt_of_lt_of_le (Nat.lt_of_lt_of_le h3 K9.out.1) hon.size,fun j hj=>hon.cell (K9.out.cell (h4 j hj) hgY) hgp⟩⟩
  ·intro hnil
   have:=HML.out
   rw[show morePcs L=[] from hnil]at this
   simp at this
  ·exact D9.out.put hon (fun k hk _=>by subst hk;exact⟨hpY,H4.out.p0⟩) (fun k hk=>by
    rcases hk with hk|rfl|rfl
    ·exact .inl (by rw[HY.out];exact .inl (.inl hk))
    ·exact .inl hpY
    ·exact .inl hgY)
 ·refine stp_dn rfl (fun K hK=>?_)
  go_wp2
  have n1:=((Nw.refl w4).drew).alloc (.cells #[.string ⟨sn.toArray⟩,.int .i64 L.n,.int .i64 0,.bool false] 98 (0,0))
  have N5a:=zH n1
  have SL:=zH (src_lit w4.drew 98 (0,0) 4 1 1 ([.string ⟨sn.toArray⟩,.int .i64 L.n,.int .i64 0,.bool false]:List Value) rfl (by omega) (by decide))
  refine hK _ _ (HC5.out _ n1) ?_;clear hK K n1
  refine stp_dn rfl (fun K hK=>?_)
  go_wp2_with fail
  go_at_call 63
  refine (PClone_ok (P4.out.nw N5a.out) (by have:=HM.out;omega)).mono ?_
  rintro e w5 ⟨v5,rfl,q1,q2,q3⟩
  rw[HM.out]at q1
  obtain⟨xa,xc,rfl,-⟩:=q1.len
  have N5:=zH (N5a.out.trans q2)
  have V5:=zH q1
  have S5:=zH (SL.out.nw q2)
  have F5:Hid (∀j,(Value.slice xa (m+1) xc).ownBlock=some j→w4.heap.size≤j):=zH (fun j hj=>Nat.le_trans N5a.out.size (q3 j hj))
  clear q1 q2 q3
  go_wp2
  refine hK _ _ (HC5.out _ N5.out) ?_;clear hK K SL
  refine stp_dn rfl (fun K hK=>?_)
  refine (wpList_append_vec rfl _ _ 32 rfl 98 i0 (.agg #[.string ⟨#[]⟩,.int .i64 0,.int .i64 0,.bool false]) 4 40 Tryz.underlying32 HI.out HZ0.out HZ1.out HZ2.out rfl (by decide) rfl rfl V5.out S5.out ?c1 ?c2 ?c3 ?_)
  case c1 =>
   intro u hu
   simp only[List.mem_cons,List.not_mem_nil,or_false]at hu
   rcases hu with rfl|rfl|rfl|rfl <;> rfl
  case c2=>unfold maxLen;omega
  case c3=>omega
  intro v6 w6 q1 q2 q3
  obtain⟨g6,o6,c6,rfl⟩:∃g6 o6 c6,v6=.slice (some ⟨g6,o6,none⟩) (m+1+1) c6:=by
   obtain⟨-,⟨-,hz⟩|⟨g6,o6,c6,hv,-⟩⟩:=q1
   ·omega
   ·exact⟨g6,o6,c6,hv⟩
  have P6:Hid (Vec 4 w6 (.slice (some ⟨g6,o6,none⟩) (m+1+1) c6) (m+1+1) (L.l.flatMap pcV++([.string ⟨sn.toArray⟩,.int .i64 L.n,.int .i64 0,.bool false]:List Value))∧Nw w4 w6∧w4.heap.size≤g6):=zH (by
   refine⟨q1,N5.out.trans' q2 (fun k hk hc=>by have:=F5.out k hc;omega),?_⟩
   rcases q3 with h|h
   ·exact F5.out g6 (by have h':some g6=(Value.slice xa (m+1) xc).ownBlock:=h;exact h'.symm)
   ·exact Nat.le_trans N5.out.size (h g6 rfl))
  clear q1 q2 q3 V5 S5 N5 F5
  go_wp2
  refine hK _ _ (HC5.out _ P6.out.2.1) ?_;clear hK K
  refine wpSteps_nil ?_
  refine stp_do rfl (by decide) (fun K hK=>?_)
  go_wp2
  (try (refine hK _ _ ?_;clear hK K))
  refine wpNums_nil ?_
  go_upto_region 11 with fail
  have hwm:IntKind.i64.wrap (m:Int)=m:=IntWalk.i64_in _ (by omega)
  have hwn:IntKind.i64.wrap ((L.n:Int)-fi)=L.n-fi:=IntWalk.i64_in _ (by have:=HIN.out;have:=HPS.out;omega)
  have hc11:∀W,Nw w6 W→(W.cell? ⟨p,2,none⟩=some (.slice (some ⟨g,o,none⟩) (m+1) cap)∧W.cell? ⟨p,3,none⟩=some (.int .i64 L.n)∧W.cell? ⟨g,o+m*4+1,none⟩=some (.int .i64 fi))∧p<W.heap.size∧g<W.heap.size∧g6<W.heap.size:=fun W hW=>by
   obtain⟨-,a2,a3,a4⟩:=HC5.out _ (P6.out.2.1.trans hW)
   obtain⟨b1,b2⟩:=HC6.out _ (P6.out.2.1.trans hW)
   exact⟨⟨a2,a3,b1⟩,a4,b2,Nat.lt_of_lt_of_le (P6.out.1.lt g6 rfl) hW.size⟩
  have HC11:=zH hc11
  clear hc11
  refine wp_region_steps 17 [.rd 0,.rd 1,.rd 2,.rd 3,.rd 4,.rd 5,.rd 6,.rd 7,.rd 8,.rd 9,.rd 10,.rd 11,.dn 12,.rd 13,.rd 14,.rd 15,.rd 16] [17,18,19] (fun x=>(x.cell? ⟨p,2,none⟩=some (.slice (some ⟨g,o,none⟩) (m+1) cap)∧x.cell? ⟨p,3,none⟩=some (.int .i64 L.n)∧x.cell? ⟨g,o+m*4+1,none⟩=some (.int .i64 fi))∧p<x.heap.size∧g<x.heap.size∧g6<x.heap.size) (by kernel_rfl) (by kernel_rfl) (fun _ _ _ _ _ h=>h) (HC11.out _ ((Nw.refl w6).drew)) ?_
  refine stp_to (.slice (some ⟨g6,o6,none⟩) (m+1+1) c6) rfl rfl rfl (fun x hx=>by go_simp) (fun K hK=>?_);go_simp;refine hK _ ?_;clear hK K
  refine stp_to (.pointer (some ⟨p,0,none⟩)) rfl rfl rfl (fun x hx=>by go_simp) (fun K hK=>?_);go_simp;refine hK _ ?_;clear hK K
  refine stp_to (.pointer (some ⟨p,0,none⟩)) rfl rfl rfl (fun x hx=>by obtain⟨⟨e1,e2,e3⟩,e4,e5,e6⟩:=hx;go_simp) (fun K hK=>?_);go_simp;refine hK _ ?_;clear hK K
  refine stp_to (.pointer (some ⟨p,2,none⟩)) rfl rfl rfl (fun x hx=>by obtain⟨⟨e1,e2,e3⟩,e4,e5,e6⟩:=hx;go_simp) (fun K hK=>?_);go_simp;refine hK _ ?_;clear hK K
  refine stp_to (.slice (some ⟨g,o,none⟩) (m+1) cap) rfl rfl rfl (fun x hx=>by obtain⟨⟨e1,e2,e3⟩,e4,e5,e6⟩:=hx;go_simp) (fun K hK=>?_);go_simp;refine hK _ ?_;clear hK K
  refine stp_to (.int .i64 ((m:Int)+1)) rfl rfl rfl (fun x hx=>by go_simp) (fun K hK=>?_);go_simp;refine hK _ ?_;clear hK K
  refine stp_to (.int .i64 m) rfl rfl rfl (fun x hx=>by go_simp) (fun K hK=>?_);go_simp;refine hK _ ?_;clear hK K
  refine stp_to (.pointer (some ⟨p,0,none⟩)) rfl rfl rfl (fun x hx=>by go_simp) (fun K hK=>?_);go_simp;refine hK _ ?_;clear hK K
  refine stp_to (.pointer (some ⟨p,0,none⟩)) rfl rfl rfl (fun x hx=>by obtain⟨⟨e1,e2,e3⟩,e4,e5,e6⟩:=hx;go_simp) (fun K hK=>?_);go_simp;refine hK _ ?_;clear hK K
  refine stp_to (.pointer (some ⟨p,3,none⟩)) rfl rfl rfl (fun x hx=>by obtain⟨⟨e1,e2,e3⟩,e4,e5,e6⟩:=hx;go_simp) (fun K hK=>?_);go_simp;refine hK _ ?_;clear hK K
  refine stp_to (.int .i64 L.n) rfl rfl rfl (fun x hx=>by obtain⟨⟨e1,e2,e3⟩,e4,e5,e6⟩:=hx;go_simp) (fun K hK=>?_);go_simp;refine hK _ ?_;clear hK K
  refine stp_to (.pointer (some ⟨p,0,none⟩)) rfl rfl rfl (fun x hx=>by go_simp) (fun K hK=>?_);go_simp;refine hK _ ?_;clear hK K
  refine stp_dn rfl (fun K hK=>?_)
  go_wp2_with fail
  go_at_call 73
  refine (HO6.out _ (P6.out.2.1.trans ((Nw.refl w6).drew))).mono ?_
  rintro e w7 ⟨rfl,n7⟩
  have N7:=zH (((Nw.refl w6).drew).trans n7)
  clear n7
  go_wp2
  refine hK _ _ (HC11.out _ N7.out) ?_;clear hK K
  refine stp_to (.pointer (some ⟨g,o+m*4,none⟩)) rfl rfl rfl (fun x hx=>by obtain⟨⟨e1,e2,e3⟩,e4,e5,e6⟩:=hx;go_simp) (fun K hK=>?_);go_simp;refine hK _ ?_;clear hK K
  refine stp_to (.pointer (some ⟨g,o+m*4+1,none⟩)) rfl rfl rfl (fun x hx=>by obtain⟨⟨e1,e2,e3⟩,e4,e5,e6⟩:=hx;go_simp) (fun K hK=>?_);go_simp;refine hK _ ?_;clear hK K
  refine stp_to (.int .i64 fi) rfl rfl rfl (fun x hx=>by obtain⟨⟨e1,e2,e3⟩,e4,e5,e6⟩:=hx;go_simp) (fun K hK=>?_);go_simp;refine hK _ ?_;clear hK K
  refine stp_to (.int .i64 ((L.n:Int)-fi)) rfl rfl rfl (fun x hx=>by go_simp) (fun K hK=>?_);go_simp;refine hK _ ?_;clear hK K
  refine wpSteps_nil ?_
  have V7:=zH (P6.out.1.nw N7.out)
  have hlen7:m*4+2<(L.l.flatMap pcV++([.string ⟨sn.toArray⟩,.int .i64 L.n,.int .i64 0,.bool false]:List Value)).length:=by rw[List.length_append,flat_len4,HM.out];simp;omega
  have hv8:=V7.out.set (m*4+2) hlen7 (.int .i64 ((L.n:Int)-fi))
  rw[←Nat.add_assoc]at hv8
  have hmf:(L.l.flatMap pcV++([.string ⟨sn.toArray⟩,.int .i64 L.n,.int .i64 0,.bool false]:List Value)).set (m*4+2) (.int .i64 ((L.n:Int)-fi))=(morePcs L).flatMap pcV:=by
   have:=more_flat HNE.out
   rw[List.flatMap_append,HFI.out,show L.l.length-1=m by have:=HM.out;omega]at this
   rw[←this,←ES.out];rfl
  rw[hmf]at hv8
  have hn8:Nw w4 (w7.setCell ⟨g6,o6+m*4+2,none⟩ (.int .i64 ((L.n:Int)-fi))):=Only.setCell (S:=fun _=>False) (P6.out.2.1.trans N7.out) (fun h=>by have h2:g6<w4.heap.size:=h;have:=P6.out.2.2;omega) _
  have PV8:=zH (And.intro hv8 hn8)
  obtain⟨cg,hcg,fg⟩:∃u,w7.cell? ⟨g6,o6+m*4+2,none⟩=some u∧w7.frozen? ⟨g6,o6+m*4+2,none⟩=false:=by
   obtain⟨-,⟨hz,-⟩|⟨g',o',c',hv,h1,h2,h3,h4,h5,h6⟩⟩:=V7.out
   ·cases hz
   ·injection hv with ea eb ec
    injection ea with ea
    injection ea with e1 e2
    subst e1 e2 ec
    rw[Nat.add_assoc]
    exact⟨_,h6 _ hlen7,h5 _ (by omega)⟩
  have hg6:g6<w7.heap.size:=World.block_lt_of_cell? _ _ hcg
  clear hv8 hmf hn8 hlen7 V7
  refine stp_do rfl (by decide) (fun K hK=>?_)
  go_wp2
  (try (refine hK _ _ ?_;clear hK K))
  refine stp_do rfl (by decide) (fun K hK=>?_)
  go_wp2
  (try (refine hK _ _ ?_;clear hK K))
  refine stp_do rfl (by decide) (fun K hK=>?_)
  go_wp2
  (try (refine hK _ _ ?_;clear hK K))
  refine wpNums_nil ?_
  clear hcg fg hwm hwn
  generalize w7.setCell ⟨g6,o6+m*4+2,none⟩ (.int .i64 ((L.n:Int)-fi))=w8 at PV8 ⊢
  obtain⟨a0,-,-,a3⟩:=HC5.out w8 PV8.out.2
  have HML:Hid ((morePcs L).length=m+1+1):=zH (by rw[more_len HNE.out,HM.out])
  have PC8:Hid (Pcs w8 (.slice (some ⟨g6,o6,none⟩) (m+1+1) c6) (morePcs L)):=zH (by
   have:=PV8.out.1.src
   exact⟨by rw[HML.out];exact this,more_ok P4.out.ok HNE.out hn (by rw[HFI.out];exact HPS.out)⟩)
  obtain⟨Y,hY⟩:∃Y:Nat→Prop,Y=fun k=>(X k∨k=p∨k=g)∨w4.heap.size≤k∧k<w8.heap.size:=⟨_,rfl⟩
  have D8:Hid (HasX Y w0 w8 b r2.1):=zH (H4.out.disk.nwY PV8.out.2 (fun k hk=>by rw[hY]at hk;exact hk))
  have HY:=zH hY
  clear hY
  go_wp2_with fail
  refine (Install_ok D8.out PC8.out).mono ?_
  rintro e w9 ⟨rfl,q1,q2⟩
  have hr3:r2.1.install (morePcs L)=r3:=HR3.out
  rw[hr3]at q1 ⊢
  have D9:=zH q1
  have K9:=zH q2
  have H9:=zH ((H4.out.nw PV8.out.2).disk' (q1.weak fun k hk=>by rw[HY.out];exact .inl hk) (q2.weak fun k hk=>by rw[HY.out];exact .inl hk))
  have KX9:Hid (Kept X w w9):=zH ((K4.out.trans PV8.out.2.kept).trans (q2.weak fun k hk=>by rw[HY.out];exact .inl (.inl hk)))
  clear q1 q2 hr3 a0 a3
  by_cases hx3:r3.2=0
  case neg =>
   have E:=zH (E3.out (by first|trivial|rfl) HX2.out hx3)
   have hbq:(r3.2 !=0)=true:=by simpa using hx3
   clear hx3
   go_wp2
   go_ret
   rw[E.out]
   exact⟨rfl,⟨g,o,cap,H9.out⟩,KX9.out⟩
  have E:=zH (E4.out (by first|trivial|rfl) HX2.out hx3)
  have hbq:(r3.2 !=0)=false:=by simpa using hx3
  clear hx3
  obtain⟨-,-,z2,-,-,z5,-,zf⟩:=H9.out.mem.cells
  have zf2:=zf 2
  have zf5:=zf 5
  have hp9:=lt_of_block H9.out.mem.blk
  clear zf
  go_wp2
  go_ret
  rw[E.out]
  have hb1:=heap_setCell_at (heap_setCell_at H9.out.mem.blk 2 (.slice (some ⟨g6,o6,none⟩) (m+1+1) c6)) 5 (.int .i64 hb)
  have hon:Only (fun k=>k=p) w9 ((w9.setCell ⟨p,2,none⟩ (.slice (some ⟨g6,o6,none⟩) (m+1+1) c6)).setCell ⟨p,5,none⟩ (.int .i64 hb)):=by
   refine Only.setCell (S:=fun k=>k=p) (p:=⟨p,5,none⟩) ?_ (fun _=>rfl) _
   exact Only.setCell (S:=fun k=>k=p) (p:=⟨p,2,none⟩) (Only.refl w9) (fun _=>rfl) _
  have hgY:Y g6:=by rw[HY.out];exact .inr ⟨P6.out.2.2,by have:=PV8.out.1.lt g6 rfl;exact this⟩
  have hpY:Y p:=by rw[HY.out];exact .inl (.inr (.inl rfl))
  have hgp:g6≠p:=by have:=lt_of_block H4.out.mem.blk;have:=P6.out.2.2;omega
  have hw40:=H4.out.disk.base.size
  refine⟨rfl,⟨g6,o6,c6,⟨⟨?_,?_,?_⟩,?_,H4.out.p0,H4.out.p1,by have:=P6.out.2.2;omega,hgp,fun hx=>by have:=H4.out.disk.lt _ (.inl hx);have:=P6.out.2.2;omega⟩⟩,KX9.out.trans ⟨hon.size,fun k hk hlt=>hon.block k hlt (fun e=>H4.out.p1 (e▸hk))⟩⟩
  ·rw[hb1]
   simp only[HML.out,EH.out]
   rfl
  ·have hpc:=PC8.out
   refine⟨?_,hpc.ok⟩
   have hs:=hpc.src
   simp only[HML.out]at hs ⊢
   obtain⟨e,⟨a,hv,hz⟩|⟨g',o',cap',hv,h1,h2,h3,h4⟩⟩:=hs
   ·cases hv
   ·injection hv with ea eb ec
    injection ea with ea
    injection ea with e1 e2
    subst e1 e2 ec
    exact⟨e,.inr ⟨g6,o6,c6,rfl,h1,h2,Nat.lt_of_lt_of_le (Nat.lt_of_lt_of_le h3 K9.out.1) hon.size,fun j hj=>hon.cell (K9.out.cell (h4 j hj) hgY) hgp⟩⟩
  ·intro hnil
   have:=HML.out
   rw[show morePcs L=[] from hnil]at this
   simp at this
  ·exact D9.out.put hon (fun k hk _=>by subst hk;exact⟨hpY,H4.out.p0⟩) (fun k hk=>by
    rcases hk with hk|rfl|rfl
    ·exact .inl (by rw[HY.out];exact .inl (.inl hk))
    ·exact .inl hpY
    ·exact .inl hgY)
end
end Go.Proofs.YtkbenkldfehhlaaGreatDoor
