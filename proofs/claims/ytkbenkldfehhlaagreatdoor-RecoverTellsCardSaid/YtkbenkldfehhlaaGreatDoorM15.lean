/-
  Texts merged by a program of this claim's: Ref02E, Ref02F, Ref02G, Ref02H.
-/
import Derived.Test.YtkbenkldfehhlaaGreatDoorM14
import Derived.Test.YtkbenkldfehhlaaGreatDoorM10
import Derived.Deep.DeepCutAuto
namespace Go.Proofs.YtkbenkldfehhlaaGreatDoor
open Go Go.RowKit Go.Sort
set_option maxRecDepth 100000
set_option maxHeartbeats 3200000
section
variable {X:Nat→Prop}
theorem rCut_ok {w:World}{v:Value}{r:Dsk}(hX:∀k,w.heap.size≤k→X k) (h:RefD X w v r) (hk:ROk r) (n:Str) (kz:Int):Calls Tryz.prog 59 #[v,.string ⟨n.toArray⟩,.int .i64 kz] w fun e w' =>
  ∃v',e=.returned (.tuple #[v',.int .i64 (r.rCut n kz).2])∧RefD X w' v' (r.rCut n kz).1∧Nw w w':=by
 have HX:=zH hX
 clear hX
 have HR:=zH h
 obtain⟨sv,rfl,hFL⟩:=h
 obtain⟨a,cap,rfl,h1,h2,hel⟩:=hFL.elem
 obtain⟨most,L,left,down⟩:=r
 obtain⟨few,used,most0,most1,arm0,arm1⟩:=hk
 simp only at h1 h2 HR few used most0 most1 arm0 arm1 hel
 have HFL:=zH hFL
 have HE:=zH hel
 simp only at HFL
 clear hFL hel
 unfold maxLen at h2
 cases down
 case true =>
  have r:Hid (Dsk.rCut ⟨most,L,left,true⟩ n kz=(⟨most,L,left,true⟩,15)):=zH (by simp[Dsk.rCut,Dsk.op])
  rw[r.out]
  go_enter Tryz.func59,Tryz.ntmps59
  go_wp2
  refine bodyPost_ret (v:=.tuple #[.agg #[.int .i64 most,.slice a L.length cap,.int .i64 left,.bool true],.int .i64 15]) (by simp[results,Tryz.results59,go_sem]) rfl ?_
  have hN:=((Nw.refl w).alloc (DB (.int .i64 most) (.slice a L.length cap) (.int .i64 left) (.bool true))).alloc (DB (.int .i64 most) (.slice a L.length cap) (.int .i64 left) (.bool true))
  exact⟨_,rfl,⟨_,rfl,HFL.out.nw hN⟩,hN⟩
 case false =>
  have TB:=two_boxes w #[.int .i64 most,.slice a L.length cap,.int .i64 left,.bool false] #[.int .i64 0,.slice none 0 0,.int .i64 0,.bool false] 28 28
  go_enter Tryz.func59,Tryz.ntmps59
  go_wp2_with fail
  generalize (w.alloc (.cells #[.int .i64 most,.slice a L.length cap,.int .i64 left,.bool false] 28)).alloc (.cells #[.int .i64 0,.slice none 0 0,.int .i64 0,.bool false] 28)=W0 at TB ⊢
  obtain⟨t1,t2,t3,t4⟩:=TB
  have T1:=zH t1
  have T2:=zH t2
  have T3:=zH t3
  have T4:=zH t4
  clear t1 t2 t3 t4
  refine (rFind_ok (HR.out.nw T1.out) n).mono ?_
  rintro e w1 ⟨rfl,n1⟩
  have N1:=zH (T1.out.trans n1)
  have B1:=zH (n1.at_ T2.out)
  have Q1:=zH (n1.at_ T3.out)
  have hs1:w.heap.size+1<w1.heap.size:=by have:=n1.size;have:=T4.out;omega
  obtain⟨b0,b1,b2,b3,bf0,bf1,bf2,bf3⟩:=box_cells B1.out
  obtain⟨r0,r1,r2,r3,rf0,rf1,rf2,rf3⟩:=box_cells Q1.out
  simp only
  clear n1
  by_cases hn:n∈namesF L
  case neg =>
   have r:Hid (Dsk.rCut ⟨most,L,left,false⟩ n kz=(⟨most,L,left,false⟩,13)):=zH (by simp[Dsk.rCut,Dsk.op,Dsk.mayCut,(getF_none _ _).2 hn])
   rw[rfind_no hn]
   clear hn
   go_wp2
   refine bodyPost_ret (v:=.tuple #[.agg #[.int .i64 most,.slice a L.length cap,.int .i64 left,.bool false],.int .i64 13]) (by simp[results,Tryz.results59,go_sem,r0,r1,r2,r3]) rfl ?_
   have hN:=N1.out.trans' (only_set4q w1 (w.heap.size+1) (.int .i64 most) (.slice a L.length cap) (.int .i64 left) (.bool false)) (fun k hk e=>by omega)
   rw[r.out]
   exact⟨_,rfl,⟨_,rfl,HFL.out.nw hN⟩,hN⟩
  case pos =>
   obtain⟨k,hk,hfi,hkn,hfo⟩:=rfind_mem hn
   obtain⟨g,o,b,rfl,e0,e1,e2,hb⟩:=HE.out k hk
   obtain⟨xa,xc,rfl,hxl,-⟩:=hb.1.elems
   have c0:=N1.out.cell e0
   have c1:=N1.out.cell e1
   have c2:=N1.out.cell e2
   have HBX:=zH hb.1
   have HXL:=zH hxl
   have hul:=rfile_le L n
   rw[hfo]at hul
   rw[hkn]at c0
   have HACT:Hid (L[k].2=fileOf L n):=zH hfo.symm
   have hmay:Dsk.mayCut ⟨most,L,left,false⟩ n kz=if kz<0∨(L[k].2.bytes.length:Int)<kz then 2 else 0:=by
    unfold Dsk.mayCut
    rw[←hfo]
    unfold fileOf
    cases hg:getF L n with
    |none=>exact absurd hn ((getF_none _ _).1 hg)
    |some f=>rfl
   have HMAY:=zH hmay
   clear hb e0 e1 e2 hkn hfo hxl hmay
   generalize L[k]=x at *
   obtain⟨x1,x2,x3⟩:=x
   simp only at c1 c2 hul HACT HBX HXL HMAY
   have hks:(k:Int)≤(L.length:Int):=by omega
   by_cases hbad:kz<0∨(x2.length:Int)<kz
   ·have hm:=HMAY.out
    rw[if_pos hbad]at hm
    have r:Hid (Dsk.rCut ⟨most,L,left,false⟩ n kz=(⟨most,L,left,false⟩,2)):=zH (by simp[Dsk.rCut,Dsk.op,hm])
    clear hm
    rw[hfi]
    clear hfi hn
    have NA:Hid (Nw w1 (w1.alloc (.cells #[.string ⟨n.toArray⟩,.slice xa x2.length xc,.int .i64 x3] 104))):=zH ((Nw.refl w1).alloc _)
    have hneq:¬ w.heap.size+1=w1.heap.size:=by omega
    have hneq0:¬ w.heap.size=w1.heap.size:=by omega
    have hltp:w.heap.size<w1.heap.size:=by omega
    have hc:kz<0∨(0≤kz∧(x2.length:Int)<kz):=by omega
    clear hbad
    rcases hc with hc|⟨hc,hc'⟩
    all_goals
     go_wp2
     refine bodyPost_ret (v:=.tuple #[.agg #[.int .i64 most,.slice (some ⟨g,o,none⟩) L.length cap,.int .i64 left,.bool false],.int .i64 2]) (by simp[results,Tryz.results59,go_sem,r0,r1,r2,r3,hs1]) rfl ?_
     have hN:=(N1.out.trans' (only_set4q w1 (w.heap.size+1) (.int .i64 most) (.slice (some ⟨g,o,none⟩) L.length cap) (.int .i64 left) (.bool false)) (fun k hk e=>by omega)).alloc (.cells #[.string ⟨n.toArray⟩,.slice xa x2.length xc,.int .i64 x3] 104)
     rw[r.out]
     exact⟨_,rfl,⟨_,rfl,HFL.out.nw hN⟩,hN⟩
   obtain⟨kn,rfl⟩:=Int.eq_ofNat_of_zero_le (show 0≤kz by omega)
   have hkl:kn≤x2.length:=by omega
   have hm:=HMAY.out
   rw[if_neg hbad]at hm
   have HM:=zH hm
   obtain⟨pf,hpf⟩:∃pf,pf=w1.heap.size:=⟨_,rfl⟩
   have hpf1:w.heap.size+1<pf:=by omega
   have hneq0:¬ w.heap.size=w1.heap.size:=by omega
   have hltp:w.heap.size<w1.heap.size:=by omega
   have gk:decide ((kn:Int)<0)=false:=by simp
   have gl:decide ((x2.length:Int)<(kn:Int))=false:=by simp;omega
   have gl2:decide (x2.length<kn)=false:=by simp;omega
   clear hbad hm
   have HN:=zH hn
   rw[hfi]
   clear hfi hn
   go_wp2_with fail
   have hnew:=heap_alloc_new w1 (.cells #[.string ⟨n.toArray⟩,.slice xa x2.length xc,.int .i64 x3] 104)
   have NA:Nw w1 (w1.alloc (.cells #[.string ⟨n.toArray⟩,.slice xa x2.length xc,.int .i64 x3] 104)):=(Nw.refl w1).alloc _
   rw[←hpf]at hnew
   simp only[←hpf]
   generalize w1.alloc (.cells #[.string ⟨n.toArray⟩,.slice xa x2.length xc,.int .i64 x3] 104)=wa at hnew NA ⊢
   have F1:=zH hnew
   have N1:=zH (N1.out.trans NA)
   have B1:=zH (NA.at_ B1.out)
   have Q1:=zH (NA.at_ Q1.out)
   have hs1:w.heap.size+1<wa.heap.size:=by have:=NA.size;omega
   have hpf2:pf<wa.heap.size:=lt_of_block hnew
   clear hnew NA gk gl gl2 c0 c1 c2 hneq0 hltp hpf
   refine (opn_ok _ most left (some ⟨g,o,none⟩) L.length cap false arm0 arm1).mono ?_
   rintro e w2 ⟨n2,he⟩
   have N2:=zH (N1.out.trans n2)
   have B2:=zH (n2.at_ B1.out)
   have Q2:=zH (n2.at_ Q1.out)
   have F2:=zH (n2.at_ F1.out)
   have hs2:w.heap.size+1<w2.heap.size:=by have:=n2.size;omega
   clear b0 b1 b2 b3 bf0 bf1 bf2 bf3 r0 r1 r2 r3 rf0 rf1 rf2 rf3 n2
   obtain⟨b0,b1,b2,b3,bf0,bf1,bf2,bf3⟩:=box_cells B2.out
   obtain⟨r0,r1,r2,r3,rf0,rf1,rf2,rf3⟩:=box_cells Q2.out
   by_cases hz:left=0
   ·have r:Hid (Dsk.rCut ⟨most,L,left,false⟩ n kn=(⟨most,L,-1,true⟩,15)):=zH (by have hm:=HM.out;rw[hz]at hm;simp[Dsk.rCut,Dsk.op,hm,hz])
    rw[if_pos hz]at he
    subst he
    clear hz
    go_wp2
    refine bodyPost_ret (v:=.tuple #[.agg #[.int .i64 most,.slice (some ⟨g,o,none⟩) L.length cap,.int .i64 (-1),.bool true],.int .i64 15]) (by simp[results,Tryz.results59,go_sem,r0,r1,r2,r3]) rfl ?_
    have hN:=(N2.out.trans' (only_set4 w2 w.heap.size (.int .i64 most) (.slice (some ⟨g,o,none⟩) L.length cap) (.int .i64 (-1)) (.bool true)) (fun k hk e=>by omega)).trans' (only_set4q _ (w.heap.size+1) (.int .i64 most) (.slice (some ⟨g,o,none⟩) L.length cap) (.int .i64 (-1)) (.bool true)) (fun k hk e=>by omega)
    rw[r.out]
    exact⟨_,rfl,⟨_,rfl,HFL.out.nw hN⟩,hN⟩
   ·rw[if_neg hz]at he
    subst he
    obtain⟨f0,f1,f2,ff0,ff1,ff2⟩:=box_cells3 F2.out
    have hb3:=HBX.out
    have hkt:kn≤x2.length:=by omega
    have R9:=hb3.take hkt
    have hxl:=HXL.out
    have hsl:∀w,(Instr.slice 79 (.slice xa x2.length xc) none (some (.int .i64 kn)) none).run Tryz.prog w=.ok (sliced xa 0 kn xc 1) w:=fun w=>by
     have h1:(kn:Int)≤(xc:Int):=by omega
     have h2:(0:Int)≤(kn:Int):=by omega
     go_simp
    generalize sliced xa 0 kn xc 1=s9 at R9 hsl
    have R9:=zH R9
    clear hb3
    have hne1:¬ w.heap.size=pf:=by omega
    have hne2:¬ pf=w.heap.size:=by omega
    go_wp2_with fail
    generalize hW3:(((w2.setCell ⟨w.heap.size,0,none⟩ (.int .i64 most)).setCell ⟨w.heap.size,1,none⟩ (.slice (some ⟨g,o,none⟩) L.length cap)).setCell ⟨w.heap.size,2,none⟩ (.int .i64 (max (left-1) (-1)))).setCell ⟨w.heap.size,3,none⟩ (.bool false)=W3
    have HO3:Hid (Only (fun k=>k=w.heap.size) w2 W3):=zH (hW3▸only_set4 w2 w.heap.size _ _ _ _)
    have B3:Hid (W3.heap[w.heap.size]? = some (DB (.int .i64 most) (.slice (some ⟨g,o,none⟩) L.length cap) (.int .i64 (max (left-1) (-1))) (.bool false))):=zH (hW3▸heap_set4 B2.out _ _ _ _)
    have Q3:=zH (HO3.out.at_ Q2.out (by omega))
    have N3:=zH (N2.out.trans' HO3.out (fun k hk e=>by omega))
    have hs3:w.heap.size+1<W3.heap.size:=by have:=HO3.out.size;omega
    clear hW3 f0 f1 f2 ff0 ff1 ff2 hne1 hne2 b0 b1 b2 b3 bf0 bf1 bf2 bf3 r0 r1 r2 r3 rf0 rf1 rf2 rf3
    have R3:Hid (RefD X W3 (.agg #[.int .i64 most,.slice (some ⟨g,o,none⟩) L.length cap,.int .i64 (max (left-1) (-1)),.bool false]) ⟨most,L,max (left-1) (-1),false⟩):=zH ⟨_,rfl,HFL.out.nw N3.out⟩
    have r:Hid (Dsk.rCut ⟨most,L,left,false⟩ n kn=(⟨most,rwith L (n,⟨(fileOf L n).bytes.take kn,kn⟩),max (left-1) (-1),false⟩,0)):=zH (by simp[Dsk.rCut,Dsk.op,HM.out,hz])
    have HZ:=zH hz
    clear hz
    have F3:=zH (HO3.out.at_ F2.out (by omega))
    have hpf3:pf<W3.heap.size:=lt_of_block F3.out
    obtain⟨f0,f1,f2,ff0,ff1,ff2⟩:=box_cells3 F3.out
    obtain⟨b0,b1,b2,b3,-⟩:=box_cells B3.out
    have hne1:¬ w.heap.size=pf:=by omega
    have hne2:¬ pf=w.heap.size:=by omega
    have BN:Bs W3 (.slice none 0 0) []:=.inl ⟨none,rfl,rfl⟩
    have hj:(x2.take kn).length+([]:List UInt8).length≤140737488355328:=by simp;omega
    refine (joined_ok (R9.out.nw N3.out) BN hj).mono ?_
    rintro e w6 ⟨v6,rfl,hv6,n6,hnew6⟩
    rw[List.append_nil]at hv6
    have V6:=zH hv6
    have NEW6:=zH hnew6
    have N6:=zH n6
    obtain⟨a6,c6,rfl,-⟩:=hv6.len
    clear f0 f1 f2 ff0 ff1 ff2 b0 b1 b2 b3 hsl hv6 n6 hnew6
    obtain⟨f0,f1,f2,ff0,ff1,ff2⟩:=box_cells3 (N6.out.at_ F3.out)
    obtain⟨b0,b1,b2,b3,-⟩:=box_cells (N6.out.at_ B3.out)
    go_wp2_with fail
    have hlen:(x2.take kn).length=kn:=by simp;omega
    generalize hW7:(w6.setCell ⟨pf,1,none⟩ (.slice a6 kn c6)).setCell ⟨pf,2,none⟩ (.int .i64 kn)=W7
    have HO7:Hid (Only (fun k=>k=pf) w6 W7):=zH (by
     rw[←hW7]
     refine Only.setCell (S:=fun k=>k=pf) (p:=⟨pf,2,none⟩) ?_ (fun _=>rfl) _
     exact Only.setCell (S:=fun k=>k=pf) (p:=⟨pf,1,none⟩) (Only.refl w6) (fun _=>rfl) _)
    have NB:Hid (Nw w W7):=zH ((N3.out.trans N6.out).trans' HO7.out (fun k hk e=>by omega))
    have QB:Hid (W7.heap[w.heap.size+1]? = _):=zH (HO7.out.at_ (N6.out.at_ Q3.out) (by omega))
    have BB:Hid (BsX X W7 (.slice a6 (x2.take kn).length c6) (x2.take kn)):=zH (by
     refine⟨?_,fun _ g hg=>HX.out g (by have:=NEW6.out g hg;have:=N3.out.size;omega)⟩
     have h1:=V6.out.keep HO7.out.size (fun g hg=>HO7.out.block g (V6.out.lt g hg) (fun e=>by have:=NEW6.out g hg;omega))
     have h2:(x2.take kn).length=((x2.take kn).map u8).length:=by simp
     exact Vec.rd (f:=u8) h1)
    have hs7:w.heap.size+1<W7.heap.size:=by have:=HO7.out.size;have:=N6.out.size;omega
    clear hW7
    have RX:RefD X W7 (.agg #[.int .i64 most,.slice (some ⟨g,o,none⟩) L.length cap,.int .i64 (max (left-1) (-1)),.bool false]) ⟨most,L,max (left-1) (-1),false⟩:=⟨_,rfl,HFL.out.nw NB.out⟩
    have RW:=rwith_ok RX.b (Nw.refl W7) n ⟨x2.take kn,kn⟩ a6 c6 BB.out (by show L.length≤100000;omega)
    rw[show (⟨x2.take kn,kn⟩:DFile).bytes.length=kn from hlen]at RW
    refine RW.mono ?_
    clear RW RX hlen
    rintro e w4 ⟨v4,rfl,hr4,n4⟩
    have hx:(⟨x2.take kn,kn⟩:DFile)=⟨(fileOf L n).bytes.take kn,kn⟩:=by rw[←HACT.out]
    rw[hx]at hr4
    clear hx
    obtain⟨sv4,cs4,rfl,hsv4,hfc4,hnw4⟩:=hr4
    obtain⟨a4,c4,rfl,-⟩:=hsv4.len
    have RR:Hid (FL X w4 (.slice a4 (rwith L (n,⟨(fileOf L n).bytes.take kn,kn⟩)).length c4) (rwith L (n,⟨(fileOf L n).bytes.take kn,kn⟩))):=zH ⟨cs4,hsv4,hfc4.nw n4,fun _ g hg=>HX.out g (by have:=hnw4 g hg;have:=NB.out.size;omega)⟩
    have N4:=zH (NB.out.trans n4)
    have Q4:=n4.at_ QB.out
    obtain⟨r0,r1,r2,r3,rf0,rf1,rf2,rf3⟩:=box_cells Q4
    have hs4:w.heap.size+1<w4.heap.size:=by have:=n4.size;(try simp at this);omega
    have QQ:=zH Q4
    clear hsv4 hfc4 hnw4 n4 Q4
    simp only
    go_wp2
    refine bodyPost_ret (v:=.tuple #[.agg #[.int .i64 most,.slice a4 (rwith L (n,⟨(fileOf L n).bytes.take kn,kn⟩)).length c4,.int .i64 (max (left-1) (-1)),.bool false],.int .i64 0]) (by simp[results,Tryz.results59,go_sem,r0,r1,r2,r3]) rfl ?_
    have hN:=N4.out.trans' (only_set4q w4 (w.heap.size+1) (.int .i64 most) (.slice a4 (rwith L (n,⟨(fileOf L n).bytes.take kn,kn⟩)).length c4) (.int .i64 (max (left-1) (-1))) (.bool false)) (fun k hk e=>by omega)
    rw[r.out]
    exact⟨_,rfl,⟨_,rfl,RR.out.box QQ.out (only_set4q w4 (w.heap.size+1) (.int .i64 most) (.slice a4 (rwith L (n,⟨(fileOf L n).bytes.take kn,kn⟩)).length c4) (.int .i64 (max (left-1) (-1))) (.bool false))⟩,hN⟩
end
section
variable {X:Nat→Prop}
theorem rArm_ok {w:World}{v:Value}{r:Dsk}(h:RefD X w v r) (n:Int):Calls Tryz.prog 14 #[v,.int .i64 n] w fun e w' =>
  ∃v',e=.returned v'∧RefD X w' v' (r.armed n)∧Nw w w':=by
 obtain⟨sv,rfl,hFL⟩:=h
 obtain⟨a,cap,rfl,h1,h2,-⟩:=hFL.elem
 obtain⟨most,L,left,down⟩:=r
 simp only at h1 h2
 have HFL:=zH hFL
 simp only at HFL
 clear hFL
 cases down
 case true =>
  have r:Hid (Dsk.armed ⟨most,L,left,true⟩ n=⟨most,L,left,true⟩):=zH (by simp[Dsk.armed])
  rw[r.out]
  go_enter Tryz.func14,Tryz.ntmps14
  go_wp2
  refine bodyPost_ret (v:=.agg #[.int .i64 most,.slice a L.length cap,.int .i64 left,.bool true]) (by simp[results,Tryz.results14,go_sem]) rfl ?_
  have hN:=((Nw.refl w).alloc (DB (.int .i64 most) (.slice a L.length cap) (.int .i64 left) (.bool true))).alloc (DB (.int .i64 most) (.slice a L.length cap) (.int .i64 left) (.bool true))
  exact⟨_,rfl,⟨_,rfl,HFL.out.nw hN⟩,hN⟩
 case false =>
  have hc:n<0∨0≤n:=by omega
  rcases hc with hc|hc
  ·have hc':decide (n<0)=true:=by simp;exact hc
   have r:Hid (Dsk.armed ⟨most,L,left,false⟩ n=⟨most,L,0,false⟩):=zH (by simp[Dsk.armed];omega)
   rw[r.out]
   go_enter Tryz.func14,Tryz.ntmps14
   go_wp2
   refine bodyPost_ret (v:=.agg #[.int .i64 most,.slice a L.length cap,.int .i64 0,.bool false]) (by simp[results,Tryz.results14,go_sem]) rfl ?_
   have hN:=((Nw.refl w).alloc (DB (.int .i64 most) (.slice a L.length cap) (.int .i64 0) (.bool false))).alloc (DB (.int .i64 most) (.slice a L.length cap) (.int .i64 0) (.bool false))
   exact⟨_,rfl,⟨_,rfl,HFL.out.nw hN⟩,hN⟩
  ·have hc':decide (n<0)=false:=by simp;exact hc
   have r:Hid (Dsk.armed ⟨most,L,left,false⟩ n=⟨most,L,n,false⟩):=zH (by simp[Dsk.armed];omega)
   rw[r.out]
   go_enter Tryz.func14,Tryz.ntmps14
   go_wp2
   refine bodyPost_ret (v:=.agg #[.int .i64 most,.slice a L.length cap,.int .i64 n,.bool false]) (by simp[results,Tryz.results14,go_sem]) rfl ?_
   have hN:=((Nw.refl w).alloc (DB (.int .i64 most) (.slice a L.length cap) (.int .i64 n) (.bool false))).alloc (DB (.int .i64 most) (.slice a L.length cap) (.int .i64 n) (.bool false))
   exact⟨_,rfl,⟨_,rfl,HFL.out.nw hN⟩,hN⟩
end
section
variable {X:Nat→Prop}
theorem rRename_ok {w:World}{v:Value}{r:Dsk}(hX:∀k,w.heap.size≤k→X k) (h:RefD X w v r) (hk:ROk r) (n m:Str) (hml:m.length≤9223372036854775807):Calls Tryz.prog 125 #[v,.string ⟨n.toArray⟩,.string ⟨m.toArray⟩] w fun e w' =>
  ∃v',e=.returned (.tuple #[v',.int .i64 (r.rRename n m).2])∧RefD X w' v' (r.rRename n m).1∧Nw w w':=by
 have HX:=zH hX
 clear hX
 have HR:=zH h
 obtain⟨sv,rfl,hFL⟩:=h
 obtain⟨a,cap,rfl,h1,h2,hel⟩:=hFL.elem
 obtain⟨most,L,left,down⟩:=r
 obtain⟨few,used,most0,most1,arm0,arm1⟩:=hk
 simp only at h1 h2 HR few used most0 most1 arm0 arm1 hel
 have HFL:=zH hFL
 have HE:=zH hel
 simp only at HFL
 clear hFL hel
 unfold maxLen at h2
 cases down
 case true =>
  have r:Hid (Dsk.rRename ⟨most,L,left,true⟩ n m=(⟨most,L,left,true⟩,15)):=zH (by simp[Dsk.rRename,Dsk.op])
  rw[r.out]
  go_enter Tryz.func125,Tryz.ntmps125
  go_wp2
  refine bodyPost_ret (v:=.tuple #[.agg #[.int .i64 most,.slice a L.length cap,.int .i64 left,.bool true],.int .i64 15]) (by simp[results,Tryz.results125,go_sem]) rfl ?_
  have hN:=((Nw.refl w).alloc (DB (.int .i64 most) (.slice a L.length cap) (.int .i64 left) (.bool true))).alloc (DB (.int .i64 most) (.slice a L.length cap) (.int .i64 left) (.bool true))
  exact⟨_,rfl,⟨_,rfl,HFL.out.nw hN⟩,hN⟩
 case false =>
  have TB:=two_boxes w #[.int .i64 most,.slice a L.length cap,.int .i64 left,.bool false] #[.int .i64 0,.slice none 0 0,.int .i64 0,.bool false] 28 28
  go_enter Tryz.func125,Tryz.ntmps125
  go_wp2_with fail
  generalize (w.alloc (.cells #[.int .i64 most,.slice a L.length cap,.int .i64 left,.bool false] 28)).alloc (.cells #[.int .i64 0,.slice none 0 0,.int .i64 0,.bool false] 28)=W0 at TB ⊢
  obtain⟨t1,t2,t3,t4⟩:=TB
  have T1:=zH t1
  have T2:=zH t2
  have T3:=zH t3
  have T4:=zH t4
  clear t1 t2 t3 t4
  refine (rFind_ok (HR.out.nw T1.out) n).mono ?_
  rintro e w1 ⟨rfl,n1⟩
  have N1:=zH (T1.out.trans n1)
  have B1:=zH (n1.at_ T2.out)
  have Q1:=zH (n1.at_ T3.out)
  have hs1:w.heap.size+1<w1.heap.size:=by have:=n1.size;have:=T4.out;omega
  obtain⟨b0,b1,b2,b3,bf0,bf1,bf2,bf3⟩:=box_cells B1.out
  obtain⟨r0,r1,r2,r3,rf0,rf1,rf2,rf3⟩:=box_cells Q1.out
  simp only
  clear n1
  by_cases hn:n∈namesF L
  case neg =>
   have r:Hid (Dsk.rRename ⟨most,L,left,false⟩ n m=(⟨most,L,left,false⟩,13)):=zH (by simp[Dsk.rRename,Dsk.op,Dsk.there,hn])
   rw[rfind_no hn]
   clear hn
   go_wp2
   refine bodyPost_ret (v:=.tuple #[.agg #[.int .i64 most,.slice a L.length cap,.int .i64 left,.bool false],.int .i64 13]) (by simp[results,Tryz.results125,go_sem,r0,r1,r2,r3]) rfl ?_
   have hN:=N1.out.trans' (only_set4q w1 (w.heap.size+1) (.int .i64 most) (.slice a L.length cap) (.int .i64 left) (.bool false)) (fun k hk e=>by omega)
   rw[r.out]
   exact⟨_,rfl,⟨_,rfl,HFL.out.nw hN⟩,hN⟩
  case pos =>
   obtain⟨k,hk,hfi,hkn,hfo⟩:=rfind_mem hn
   obtain⟨g,o,b,rfl,e0,e1,e2,hb⟩:=HE.out k hk
   obtain⟨xa,xc,rfl,hxl,-⟩:=hb.1.elems
   have HC0:=zH e0
   have c0:=N1.out.cell e0
   have c1:=N1.out.cell e1
   have c2:=N1.out.cell e2
   have HBX:=zH hb
   have HXL:=zH hxl
   have hul:=rfile_le L n
   rw[hfo]at hul
   rw[hkn]at c0
   have HACT:Hid (L[k].2=fileOf L n):=zH hfo.symm
   have HN:=zH hn
   clear hb e0 e1 e2 hkn hfo hxl
   generalize L[k]=x at *
   obtain⟨x1,x2,x3⟩:=x
   simp only at c1 c2 hul HACT HBX HXL
   have hks:(k:Int)≤(L.length:Int):=by omega
   have g0:decide ((k:Int)<0)=false:=by simp
   rw[hfi]
   clear hfi hn
   go_wp2_with fail
   refine (rRight_ok m _ hml).mono ?_
   rintro e w9 ⟨rfl,rfl⟩
   by_cases hok:okName m=true
   case neg =>
    have hok':okName m=false:=by simpa using hok
    rw[hok']
    have r:Hid (Dsk.rRename ⟨most,L,left,false⟩ n m=(⟨most,L,left,false⟩,13)):=zH (by simp[Dsk.rRename,Dsk.op,hok'])
    clear hok hok'
    go_wp2
    refine bodyPost_ret (v:=.tuple #[.agg #[.int .i64 most,.slice (some ⟨g,o,none⟩) L.length cap,.int .i64 left,.bool false],.int .i64 13]) (by simp[results,Tryz.results125,go_sem,r0,r1,r2,r3]) rfl ?_
    have hN:=N1.out.trans' (only_set4q w1 (w.heap.size+1) (.int .i64 most) (.slice (some ⟨g,o,none⟩) L.length cap) (.int .i64 left) (.bool false)) (fun k hk e=>by omega)
    rw[r.out]
    exact⟨_,rfl,⟨_,rfl,HFL.out.nw hN⟩,hN⟩
   rw[hok]
   have hth:Dsk.there ⟨most,L,left,false⟩ n=0:=by simp[Dsk.there,HN.out]
   have HTH:=zH hth
   have HOK:=zH hok
   clear hok hth g0
   go_wp2_with fail
   refine (opn_ok _ most left (some ⟨g,o,none⟩) L.length cap false arm0 arm1).mono ?_
   rintro e w2 ⟨n2,he⟩
   have N2:=zH (N1.out.trans n2)
   have B2:=zH (n2.at_ B1.out)
   have Q2:=zH (n2.at_ Q1.out)
   have hs2:w.heap.size+1<w2.heap.size:=by have:=n2.size;omega
   have c0:=n2.cell c0
   have c1:=n2.cell c1
   have c2:=n2.cell c2
   clear b0 b1 b2 b3 bf0 bf1 bf2 bf3 r0 r1 r2 r3 rf0 rf1 rf2 rf3 n2
   obtain⟨b0,b1,b2,b3,bf0,bf1,bf2,bf3⟩:=box_cells B2.out
   obtain⟨r0,r1,r2,r3,rf0,rf1,rf2,rf3⟩:=box_cells Q2.out
   by_cases hz:left=0
   ·have r:Hid (Dsk.rRename ⟨most,L,left,false⟩ n m=(⟨most,L,-1,true⟩,15)):=zH (by have hm:=HTH.out;rw[hz]at hm;simp[Dsk.rRename,Dsk.op,HOK.out,hm,hz])
    rw[if_pos hz]at he
    subst he
    clear hz
    go_wp2
    refine bodyPost_ret (v:=.tuple #[.agg #[.int .i64 most,.slice (some ⟨g,o,none⟩) L.length cap,.int .i64 (-1),.bool true],.int .i64 15]) (by simp[results,Tryz.results125,go_sem,r0,r1,r2,r3]) rfl ?_
    have hN:=(N2.out.trans' (only_set4 w2 w.heap.size (.int .i64 most) (.slice (some ⟨g,o,none⟩) L.length cap) (.int .i64 (-1)) (.bool true)) (fun k hk e=>by omega)).trans' (only_set4q _ (w.heap.size+1) (.int .i64 most) (.slice (some ⟨g,o,none⟩) L.length cap) (.int .i64 (-1)) (.bool true)) (fun k hk e=>by omega)
    rw[r.out]
    exact⟨_,rfl,⟨_,rfl,HFL.out.nw hN⟩,hN⟩
   ·rw[if_neg hz]at he
    subst he
    have hgl:g<w.heap.size:=World.block_lt_of_cell? w _ HC0.out
    have hg1:¬ w.heap.size=g:=by omega
    have hg2:¬ g=w.heap.size:=by omega
    go_wp2_with fail
    generalize hW3:(((w2.setCell ⟨w.heap.size,0,none⟩ (.int .i64 most)).setCell ⟨w.heap.size,1,none⟩ (.slice (some ⟨g,o,none⟩) L.length cap)).setCell ⟨w.heap.size,2,none⟩ (.int .i64 (max (left-1) (-1)))).setCell ⟨w.heap.size,3,none⟩ (.bool false)=W3
    have HO3:Hid (Only (fun k=>k=w.heap.size) w2 W3):=zH (hW3▸only_set4 w2 w.heap.size _ _ _ _)
    have B3:Hid (W3.heap[w.heap.size]? = some (DB (.int .i64 most) (.slice (some ⟨g,o,none⟩) L.length cap) (.int .i64 (max (left-1) (-1))) (.bool false))):=zH (hW3▸heap_set4 B2.out _ _ _ _)
    have Q3:=zH (HO3.out.at_ Q2.out (by omega))
    have N3:=zH (N2.out.trans' HO3.out (fun k hk e=>by omega))
    have hs3:w.heap.size+1<W3.heap.size:=by have:=HO3.out.size;omega
    have hss:W3.heap.size=w2.heap.size:=by rw[←hW3];simp
    clear hW3
    refine wp_region_steps 5 [.rd 0,.rd 1,.rd 3,.dn 2,.dn 4] [5,6] (fun x=>Nw (W3.alloc (.cells #[.string ⟨m.toArray⟩,.slice xa x2.length xc,.int .i64 x3] 104)) x) (by kernel_rfl) (by kernel_rfl) (fun _ _ _ _ _ h=>h) ((Nw.refl _).drew) ?_
    have NA:Hid (Nw W3 (W3.alloc (.cells #[.string ⟨m.toArray⟩,.slice xa x2.length xc,.int .i64 x3] 104))):=zH ((Nw.refl W3).alloc _)
    have F4:=zH (heap_alloc_new W3 (.cells #[.string ⟨m.toArray⟩,.slice xa x2.length xc,.int .i64 x3] 104))
    rw[hss]at F4
    generalize W3.alloc (.cells #[.string ⟨m.toArray⟩,.slice xa x2.length xc,.int .i64 x3] 104)=W4 at NA F4 ⊢
    have B4:=zH (NA.out.at_ B3.out)
    have Q4:=zH (NA.out.at_ Q3.out)
    have N4:=zH (N3.out.trans NA.out)
    clear b0 b1 b2 b3 bf0 bf1 bf2 bf3 r0 r1 r2 r3 rf0 rf1 rf2 rf3 c0 c1 c2
    refine wpSteps_val (.agg #[.int .i64 most,.slice (some ⟨g,o,none⟩) L.length cap,.int .i64 (max (left-1) (-1)),.bool false]) rfl rfl (fun x hx=>by
     obtain⟨b0,b1,b2,b3,bf0,bf1,bf2,bf3⟩:=box_cells (hx.at_ B4.out)
     go_simp) ?_
    refine wpSteps_val (.string ⟨n.toArray⟩) rfl rfl (fun x hx=>by go_simp) ?_
    refine wpSteps_val (.agg #[.string ⟨m.toArray⟩,.slice xa x2.length xc,.int .i64 x3]) rfl rfl (fun x hx=>by
     obtain⟨f0,f1,f2,ff0,ff1,ff2⟩:=box_cells3 (hx.at_ F4.out)
     go_simp) ?_
    simp only[Act.put,Array.setIfInBounds]
    refine wpSteps_dn rfl (fun K hK=>?_)
    go_wp2_with fail
    have RX:RefD X W4.drew (.agg #[.int .i64 most,.slice (some ⟨g,o,none⟩) L.length cap,.int .i64 (max (left-1) (-1)),.bool false]) ⟨most,L,max (left-1) (-1),false⟩:=⟨_,rfl,HFL.out.nw (N4.out.trans ((Nw.refl W4).drew))⟩
    have hL:L.length≤100000:=by omega
    refine (rwithout_ok RX.b (Nw.refl _) n hL).mono ?_
    rintro e w5 ⟨v5,rfl,hr5,n5⟩
    go_wp2
    have M5:=zH (((Nw.refl W4).drew).trans n5)
    have N5:=zH n5
    refine hK _ _ M5.out ?_;clear hK K
    refine wpSteps_dn rfl (fun K hK=>?_)
    go_wp2_with fail
    have HB4:=HBX.out.nw (N4.out.trans ((Nw.refl W4).drew))
    have h5:(rwithout L n).length≤100000:=Nat.le_trans (List.length_filter_le _ _) hL
    refine (rwith_ok hr5.b n5 m ⟨x2,x3⟩ xa xc HB4 h5).mono ?_
    rintro e w6 ⟨v6,rfl,hr6,n6⟩
    go_wp2
    have M6:=zH (M5.out.trans n6)
    refine hK _ _ M6.out ?_;clear hK K
    refine wpSteps_nil ?_
    have Q6:=zH (M6.out.at_ Q4.out)
    obtain⟨r0,r1,r2,r3,rf0,rf1,rf2,rf3⟩:=box_cells Q6.out
    obtain⟨sv6,cs6,rfl,hsv6,hfc6,hnw6⟩:=hr6
    obtain⟨a6,c6,rfl,-⟩:=hsv6.len
    have hs6:w.heap.size+1<w6.heap.size:=lt_of_block Q6.out
    have hnm:∀M:List (Str×DFile),M=rwith (rwithout L n) (m,⟨x2,x3⟩)→FL X w6 (.slice a6 M.length c6) M:=fun M hM=>by subst hM;exact⟨cs6,hsv6,hfc6.nw (N5.out.trans n6),fun _ g hg=>HX.out g (by have:=hnw6 g hg;have:=M5.out.size;have:=N4.out.size;omega)⟩
    generalize hM:rwith (rwithout L n) (m,⟨x2,x3⟩)=M at *
    have RR:=zH (hnm M rfl)
    have HMM:=zH hM
    have QQ:=zH Q6.out
    clear hsv6 hfc6 hnw6 hnm hM n6 hr5 HB4 h5 n5
    refine stp_do rfl (by decide) (fun K hK=>?_)
    go_wp2
    (try (refine hK _ _ ?_;clear hK K))
    refine stp_do rfl (by decide) (fun K hK=>?_)
    go_wp2
    (try (refine hK _ _ ?_;clear hK K))
    refine wpNums_nil ?_
    have r:Hid (Dsk.rRename ⟨most,L,left,false⟩ n m=(⟨most,M,max (left-1) (-1),false⟩,0)):=zH (by rw[←HMM.out,show (⟨x2,x3⟩:DFile)=fileOf L n from HACT.out];simp[Dsk.rRename,Dsk.op,HOK.out,HTH.out,hz])
    clear r0 r1 r2 r3 rf0 rf1 rf2 rf3
    have hN:=(N4.out.trans M6.out).trans' (only_set4q w6 (w.heap.size+1) (.int .i64 most) (.slice a6 M.length c6) (.int .i64 (max (left-1) (-1))) (.bool false)) (fun k hk e=>by omega)
    have HN9:=zH hN
    have RR9:=zH (RR.out.box QQ.out (only_set4q w6 (w.heap.size+1) (.int .i64 most) (.slice a6 M.length c6) (.int .i64 (max (left-1) (-1))) (.bool false)))
    obtain⟨r0,r1,r2,r3,-⟩:=box_cells (heap_set4 QQ.out (.int .i64 most) (.slice a6 M.length c6) (.int .i64 (max (left-1) (-1))) (.bool false))
    clear hN
    generalize (((w6.setCell ⟨w.heap.size+1,0,none⟩ (.int .i64 most)).setCell ⟨w.heap.size+1,1,none⟩ (.slice a6 M.length c6)).setCell ⟨w.heap.size+1,2,none⟩ (.int .i64 (max (left-1) (-1)))).setCell ⟨w.heap.size+1,3,none⟩ (.bool false)=w9 at HN9 RR9 r0 r1 r2 r3 ⊢
    go_wp2_with fail
    refine bodyPost_ret (v:=.tuple #[.agg #[.int .i64 most,.slice a6 M.length c6,.int .i64 (max (left-1) (-1)),.bool false],.int .i64 0]) (by simp[results,Tryz.results125,go_sem,r0,r1,r2,r3]) rfl ?_
    rw[r.out]
    exact⟨_,rfl,⟨_,rfl,RR9.out⟩,HN9.out⟩
end
section
variable {X:Nat→Prop}
theorem rAppend_ok {w:World}{v u:Value}{r:Dsk}(hX:∀k,w.heap.size≤k→X k) (h:RefD X w v r) (hk:ROk r) (n:Str) (hml:n.length≤9223372036854775807) (l:List UInt8) (hl:Bs w u l) (hll:l.length≤16777216) :
  Calls Tryz.prog 39 #[v,.string ⟨n.toArray⟩,u] w fun e w' =>
  ∃v',e=.returned (.tuple #[v',.int .i64 (r.rAppend n l).2])∧RefD X w' v' (r.rAppend n l).1∧Nw w w':=by
 have HX:=zH hX
 clear hX
 have HR:=zH h
 obtain⟨sv,rfl,hFL⟩:=h
 obtain⟨a,cap,rfl,h1,h2,hel⟩:=hFL.elem
 obtain⟨ua,uc,rfl,-⟩:=hl.len
 have HLB:=zH hl
 obtain⟨most,L,left,down⟩:=r
 obtain⟨few,used,most0,most1,arm0,arm1⟩:=hk
 simp only at h1 h2 HR few used most0 most1 arm0 arm1 hel
 have HFL:=zH hFL
 have HE:=zH hel
 simp only at HFL
 clear hFL hel hl
 unfold maxLen at h2
 cases down
 case true =>
  have r:Hid (Dsk.rAppend ⟨most,L,left,true⟩ n l=(⟨most,L,left,true⟩,15)):=zH (by simp[Dsk.rAppend,Dsk.op])
  rw[r.out]
  go_enter Tryz.func39,Tryz.ntmps39
  go_wp2
  refine bodyPost_ret (v:=.tuple #[.agg #[.int .i64 most,.slice a L.length cap,.int .i64 left,.bool true],.int .i64 15]) (by simp[results,Tryz.results39,go_sem]) rfl ?_
  have hN:=((Nw.refl w).alloc (DB (.int .i64 most) (.slice a L.length cap) (.int .i64 left) (.bool true))).alloc (DB (.int .i64 most) (.slice a L.length cap) (.int .i64 left) (.bool true))
  exact⟨_,rfl,⟨_,rfl,HFL.out.nw hN⟩,hN⟩
 case false =>
  have TB:=two_boxes w #[.int .i64 most,.slice a L.length cap,.int .i64 left,.bool false] #[.int .i64 0,.slice none 0 0,.int .i64 0,.bool false] 28 28
  go_enter Tryz.func39,Tryz.ntmps39
  go_wp2_with fail
  generalize (w.alloc (.cells #[.int .i64 most,.slice a L.length cap,.int .i64 left,.bool false] 28)).alloc (.cells #[.int .i64 0,.slice none 0 0,.int .i64 0,.bool false] 28)=W0 at TB ⊢
  obtain⟨t1,t2,t3,t4⟩:=TB
  have T1:=zH t1
  have T2:=zH t2
  have T3:=zH t3
  have T4:=zH t4
  clear t1 t2 t3 t4
  refine (rRight_ok n _ hml).mono ?_
  rintro e w9 ⟨rfl,rfl⟩
  cases hok:okName n
  case false =>
   have r:Hid (Dsk.rAppend ⟨most,L,left,false⟩ n l=(⟨most,L,left,false⟩,13)):=zH (by simp[Dsk.rAppend,Dsk.op,Dsk.mayAppend,hok])
   obtain⟨b0,b1,b2,b3,bf0,bf1,bf2,bf3⟩:=box_cells T2.out
   obtain⟨r0,r1,r2,r3,rf0,rf1,rf2,rf3⟩:=box_cells T3.out
   have hs1:w.heap.size+1<W0.heap.size:=by have:=T4.out;omega
   clear hok
   go_wp2
   refine bodyPost_ret (v:=.tuple #[.agg #[.int .i64 most,.slice a L.length cap,.int .i64 left,.bool false],.int .i64 13]) (by simp[results,Tryz.results39,go_sem,r0,r1,r2,r3]) rfl ?_
   have hN:=T1.out.trans' (only_set4q W0 (w.heap.size+1) (.int .i64 most) (.slice a L.length cap) (.int .i64 left) (.bool false)) (fun k hk e=>by omega)
   rw[r.out]
   exact⟨_,rfl,⟨_,rfl,HFL.out.nw hN⟩,hN⟩
  case true =>
  have HOK:=zH hok
  clear hok
  obtain⟨b0,b1,b2,b3,bf0,bf1,bf2,bf3⟩:=box_cells T2.out
  have hs0:w.heap.size+1<W0.heap.size:=by have:=T4.out;omega
  go_wp2_with fail
  clear b0 b1 b2 b3 bf0 bf1 bf2 bf3
  refine (rFind_ok (HR.out.nw T1.out) n).mono ?_
  rintro e w1 ⟨rfl,n1⟩
  have N1:=zH (T1.out.trans n1)
  have B1:=zH (n1.at_ T2.out)
  have Q1:=zH (n1.at_ T3.out)
  have hs1:w.heap.size+1<w1.heap.size:=by have:=n1.size;have:=T4.out;omega
  obtain⟨b0,b1,b2,b3,bf0,bf1,bf2,bf3⟩:=box_cells B1.out
  have d0:=cellG b0
  have d1:=cellG b1
  have d2:=cellG b2
  have d3:=cellG b3
  simp only
  clear n1
  have HU:Hid (∀p:Regrown,Calls Tryz.prog 51 #[.agg #[.int .i64 most,.slice a L.length cap,.int .i64 left,.bool false]] (grow (redrawn w1 p.d) p.os) fun e w''=>e=.returned (.int .i64 (usedF L))∧∃p':Regrown,w''=grow (redrawn w1 p'.d) p'.os):=zH (fun p=>quiet_nw fun w2 hw2=>rUsed_ok ((HR.out.nw N1.out).nw hw2) (by show usedF L≤_;omega))
  obtain⟨i,hi⟩:∃i:Int,rfindI L n=i:=⟨_,rfl⟩
  have HI:=zH hi
  rw[hi]
  clear hi
  have hwr:IntKind.i64.wrap ((usedF L:Int)+(l.length:Int))=(usedF L:Int)+(l.length:Int):=IntWalk.i64_in _ (by omega)
  have hi0:Hid ((i<0)↔n∉namesF L):=zH (by
   rw[←HI.out]
   by_cases hn:n∈namesF L
   ·obtain⟨k,hk,hfi,-⟩:=rfind_mem hn
    rw[hfi];simp[hn]
   ·rw[rfind_no hn];simp[hn])
  have hfull:∃full:Bool,Hid (full=true↔(most<((usedF L+l.length:Nat):Int)∨(n∉namesF L∧200≤L.length)))∧Hid (full=true↔(most<(usedF L:Int)+(l.length:Int)∨(i<0∧200≤L.length))):=
   ⟨decide (most<((usedF L+l.length:Nat):Int)∨(n∉namesF L∧200≤L.length)),zH (by simp),zH (by rw[decide_eq_true_iff,hi0.out,Int.natCast_add])⟩
  obtain⟨full,HF1,HF2⟩:=hfull
  go_upto_region 6 with fail
  go_cut [38] (fun s38 wx=>s38=.bool full∧Nw w1 wx)
  case first =>
   by_cases c1:most<(usedF L:Int)+(l.length:Int)
   ·have hg:decide (most<(usedF L:Int)+(l.length:Int))=true:=by simp;omega
    obtain rfl:full=true:=HF2.out.2 (.inl c1)
    refine wp_region_quiet_below (by kernel_rfl) (by kernel_rfl) ?_
    repeat (first|go_big_quiet_step (exact HU.out _)|quiet_step (exact HU.out _))
    refine wpQuiet_nil ?_
    intro w2 hw2
    have hw2:=zH (Nw.of_regrown hw2)
    go_wp2_with fail
    go_meet
    case rel=>exact⟨rfl,hw2.out⟩
   ·have hg:decide (most<(usedF L:Int)+(l.length:Int))=false:=by simp;omega
    by_cases c2:i<0
    ·have hg2:decide (i<0)=true:=by simpa using c2
     by_cases c3:200≤L.length
     ·have hg3:decide ((200:Int)≤(L.length:Int))=true:=by simp;omega
      have hg4:decide (200≤L.length)=true:=by simp;omega
      obtain rfl:full=true:=HF2.out.2 (.inr ⟨c2,c3⟩)
      refine wp_region_quiet_below (by kernel_rfl) (by kernel_rfl) ?_
      repeat (first|go_big_quiet_step (exact HU.out _)|quiet_step (exact HU.out _))
      refine wpQuiet_nil ?_
      intro w2 hw2
      have hw2:=zH (Nw.of_regrown hw2)
      go_wp2_with fail
      go_meet
      case rel=>exact⟨rfl,hw2.out⟩
     ·have hg3:decide ((200:Int)≤(L.length:Int))=false:=by simp;omega
      have hg4:decide (200≤L.length)=false:=by simp;omega
      obtain rfl:full=false:=by
       cases full
       ·rfl
       ·exact absurd (HF2.out.1 rfl) (by omega)
      refine wp_region_quiet_below (by kernel_rfl) (by kernel_rfl) ?_
      repeat (first|go_big_quiet_step (exact HU.out _)|quiet_step (exact HU.out _))
      refine wpQuiet_nil ?_
      intro w2 hw2
      have hw2:=zH (Nw.of_regrown hw2)
      go_wp2_with fail
      go_meet
      case rel=>exact⟨rfl,hw2.out⟩
    ·have hg2:decide (i<0)=false:=by simp;omega
     obtain rfl:full=false:=by
      cases full
      ·rfl
      ·exact absurd (HF2.out.1 rfl) (by omega)
     refine wp_region_quiet_below (by kernel_rfl) (by kernel_rfl) ?_
     repeat (first|go_big_quiet_step (exact HU.out _)|quiet_step (exact HU.out _))
     refine wpQuiet_nil ?_
     intro w2 hw2
     have hw2:=zH (Nw.of_regrown hw2)
     go_wp2_with fail
     go_meet
     case rel=>exact⟨rfl,hw2.out⟩
  case rest =>
   obtain⟨rfl,n2⟩:=hcut
   have N2:=zH (N1.out.trans n2)
   have B2:=zH (n2.at_ B1.out)
   have Q2:=zH (n2.at_ Q1.out)
   have hs2:w.heap.size+1<wc.heap.size:=by have:=n2.size;omega
   clear b0 b1 b2 b3 bf0 bf1 bf2 bf3 d0 d1 d2 d3 hwr n2
   obtain⟨b0,b1,b2,b3,bf0,bf1,bf2,bf3⟩:=box_cells B2.out
   obtain⟨r0,r1,r2,r3,rf0,rf1,rf2,rf3⟩:=box_cells Q2.out
   cases full
   case true =>
    have r:Hid (Dsk.rAppend ⟨most,L,left,false⟩ n l=(⟨most,L,left,false⟩,5)):=zH (by
     have hc:=HF1.out.1 rfl
     have hm:Dsk.mayAppend ⟨most,L,left,false⟩ n l=5:=by unfold Dsk.mayAppend;rw[if_pos HOK.out,if_pos hc]
     simp[Dsk.rAppend,Dsk.op,hm])
    go_wp2
    refine bodyPost_ret (v:=.tuple #[.agg #[.int .i64 most,.slice a L.length cap,.int .i64 left,.bool false],.int .i64 5]) (by simp[results,Tryz.results39,go_sem,r0,r1,r2,r3]) rfl ?_
    have hN:=N2.out.trans' (only_set4q wc (w.heap.size+1) (.int .i64 most) (.slice a L.length cap) (.int .i64 left) (.bool false)) (fun k hk e=>by omega)
    rw[r.out]
    exact⟨_,rfl,⟨_,rfl,HFL.out.nw hN⟩,hN⟩
   case false =>
    have HM:Hid (Dsk.mayAppend ⟨most,L,left,false⟩ n l=0):=zH (by
     have hc:¬ (most<((usedF L+l.length:Nat):Int)∨(n∉namesF L∧200≤L.length)):=fun h=>by have:=HF1.out.2 h;cases this
     unfold Dsk.mayAppend;rw[if_pos HOK.out,if_neg hc])
    go_wp2_with fail
    refine (opn_ok _ most left a L.length cap false arm0 arm1).mono ?_
    rintro e w3 ⟨n3,he⟩
    have N3:=zH (N2.out.trans n3)
    have B3:=zH (n3.at_ B2.out)
    have Q3:=zH (n3.at_ Q2.out)
    have hs3:w.heap.size+1<w3.heap.size:=by have:=n3.size;omega
    clear b0 b1 b2 b3 bf0 bf1 bf2 bf3 r0 r1 r2 r3 rf0 rf1 rf2 rf3 n3
    obtain⟨b0,b1,b2,b3,bf0,bf1,bf2,bf3⟩:=box_cells B3.out
    obtain⟨r0,r1,r2,r3,rf0,rf1,rf2,rf3⟩:=box_cells Q3.out
    by_cases hz:left=0
    ·have r:Hid (Dsk.rAppend ⟨most,L,left,false⟩ n l=(⟨most,L,-1,true⟩,15)):=zH (by have hm:=HM.out;rw[hz]at hm;simp[Dsk.rAppend,Dsk.op,hm,hz])
     rw[if_pos hz]at he
     subst he
     clear hz
     go_wp2
     refine bodyPost_ret (v:=.tuple #[.agg #[.int .i64 most,.slice a L.length cap,.int .i64 (-1),.bool true],.int .i64 15]) (by simp[results,Tryz.results39,go_sem,r0,r1,r2,r3]) rfl ?_
     have hN:=(N3.out.trans' (only_set4 w3 w.heap.size (.int .i64 most) (.slice a L.length cap) (.int .i64 (-1)) (.bool true)) (fun k hk e=>by omega)).trans' (only_set4q _ (w.heap.size+1) (.int .i64 most) (.slice a L.length cap) (.int .i64 (-1)) (.bool true)) (fun k hk e=>by omega)
     rw[r.out]
     exact⟨_,rfl,⟨_,rfl,HFL.out.nw hN⟩,hN⟩
    ·rw[if_neg hz]at he
     subst he
     have HZ:=zH hz
     clear hz
     go_upto_region 11 with fail
     generalize hW3:(((w3.setCell ⟨w.heap.size,0,none⟩ (.int .i64 most)).setCell ⟨w.heap.size,1,none⟩ (.slice a L.length cap)).setCell ⟨w.heap.size,2,none⟩ (.int .i64 (max (left-1) (-1)))).setCell ⟨w.heap.size,3,none⟩ (.bool false)=W3
     have HO3:Hid (Only (fun k=>k=w.heap.size) w3 W3):=zH (hW3▸only_set4 w3 w.heap.size _ _ _ _)
     have BW:Hid (W3.heap[w.heap.size]? = some (DB (.int .i64 most) (.slice a L.length cap) (.int .i64 (max (left-1) (-1))) (.bool false))):=zH (hW3▸heap_set4 B3.out _ _ _ _)
     have QW:=zH (HO3.out.at_ Q3.out (by omega))
     have NW3:=zH (N3.out.trans' HO3.out (fun k hk e=>by omega))
     have hsW:w.heap.size+1<W3.heap.size:=by have:=HO3.out.size;omega
     clear hW3 b0 b1 b2 b3 bf0 bf1 bf2 bf3 r0 r1 r2 r3 rf0 rf1 rf2 rf3
     obtain⟨pf,hpf⟩:∃pf,pf=W3.heap.size:=⟨_,rfl⟩
     go_upto_if 51 with fail
     have F4:=zH (heap_alloc_new W3 (.cells #[.string ⟨n.toArray⟩,.slice none 0 0,.int .i64 0] 104))
     have NA:Hid (Nw W3 (W3.alloc (.cells #[.string ⟨n.toArray⟩,.slice none 0 0,.int .i64 0] 104))):=zH ((Nw.refl W3).alloc _)
     rw[←hpf]at F4
     simp only[←hpf]
     generalize W3.alloc (.cells #[.string ⟨n.toArray⟩,.slice none 0 0,.int .i64 0] 104)=W4 at F4 NA ⊢
     have N4:=zH (NW3.out.trans NA.out)
     have B4:=zH (NA.out.at_ BW.out)
     have Q4:=zH (NA.out.at_ QW.out)
     have hpf4:pf<W4.heap.size:=lt_of_block F4.out
     have hpf3:w.heap.size+1<pf:=by omega
     clear hpf
     go_cut [] (fun wx=>∃(xa:Option Addr) (xc:Nat),Only (fun k=>k=pf) W4 wx∧wx.heap[pf]? = some (.cells #[.string ⟨n.toArray⟩,.slice xa (fileOf L n).bytes.length xc,.int .i64 (fileOf L n).synced] 104 (0,0))∧Bs w (.slice xa (fileOf L n).bytes.length xc) (fileOf L n).bytes)
     case first =>
      by_cases hn:n∈namesF L
      ·obtain⟨k,hk,hfi,hkn,hfo⟩:=rfind_mem hn
       obtain⟨g,o,b,rfl,e0,e1,e2,hb⟩:=HE.out k hk
       obtain⟨xa,xc,rfl,hxl,-⟩:=hb.1.elems
       obtain rfl:i=(k:Int):=HI.out.symm.trans hfi
       have c0:=N4.out.cell e0
       have c1:=N4.out.cell e1
       have c2:=N4.out.cell e2
       rw[hkn]at c0
       have HBX:=zH hb.1
       have HFO:=zH hfo
       clear hb e0 e1 e2 hkn hfo hxl hfi hn
       generalize L[k]=x at *
       obtain⟨x1,x2,x3⟩:=x
       simp only at c1 c2 HFO HBX
       obtain⟨f0,f1,f2,ff0,ff1,ff2⟩:=box_cells3 F4.out
       obtain⟨b0,b1,b2,b3,bf0,bf1,bf2,bf3⟩:=box_cells B4.out
       have hks:(k:Int)<(L.length:Int):=by omega
       have hpg:g<w.heap.size:=World.block_lt_of_cell? w _ (by
        obtain⟨g',o',b',he,e0,-⟩:=HE.out k hk
        cases he;exact e0)
       have hne:¬ pf=g:=by omega
       have hne2:¬ g=pf:=by omega
       go_wp2_with fail
       have hO:Only (fun k=>k=pf) W4 (((W4.setCell ⟨pf,0,none⟩ (.string ⟨n.toArray⟩)).setCell ⟨pf,1,none⟩ (.slice xa x2.length xc)).setCell ⟨pf,2,none⟩ (.int .i64 x3)):=by
        refine Only.setCell (S:=fun k=>k=pf) (p:=⟨pf,2,none⟩) ?_ (fun _=>rfl) _
        refine Only.setCell (S:=fun k=>k=pf) (p:=⟨pf,1,none⟩) ?_ (fun _=>rfl) _
        exact Only.setCell (S:=fun k=>k=pf) (p:=⟨pf,0,none⟩) (Only.refl W4) (fun _=>rfl) _
       have hH:(((W4.setCell ⟨pf,0,none⟩ (.string ⟨n.toArray⟩)).setCell ⟨pf,1,none⟩ (.slice xa x2.length xc)).setCell ⟨pf,2,none⟩ (.int .i64 x3)).heap[pf]? = some (.cells #[.string ⟨n.toArray⟩,.slice xa x2.length xc,.int .i64 x3] 104 (0,0)):=by
        have:=heap_setCell_at (heap_setCell_at (heap_setCell_at F4.out 0 (.string ⟨n.toArray⟩)) 1 (.slice xa x2.length xc)) 2 (.int .i64 x3)
        simpa using this
       go_meet
       case rel=>exact⟨xa,xc,hO,by rw[HFO.out];exact hH,by rw[HFO.out];exact HBX.out⟩
      ·have hfo:fileOf L n=⟨[],0⟩:=by simp[fileOf,(getF_none _ _).2 hn]
       obtain rfl:i = -1:=HI.out.symm.trans (rfind_no hn)
       have HFO:=zH hfo
       clear hn hfo
       go_wp2_with fail
       go_meet
       case rel=>exact⟨none,0,Only.refl _,by rw[HFO.out];exact F4.out,by rw[HFO.out];exact .inl ⟨_,rfl,rfl⟩⟩
     case rest =>
      obtain⟨xa,xc,hO5,hF5,hB5⟩:=hcut
      have F5:=zH hF5
      have BX:=zH hB5
      have N5:=zH (N4.out.trans' hO5 (fun k hk e=>by omega))
      have B5:=zH (hO5.at_ B4.out (by omega))
      have Q5:=zH (hO5.at_ Q4.out (by omega))
      have hpf5:pf<wc.heap.size:=lt_of_block hF5
      have hul:=rfile_le L n
      obtain⟨J,hJ⟩:∃J,J=(fileOf L n).bytes++l:=⟨_,rfl⟩
      have JO:=joined_ok (BX.out.nw N5.out) (HLB.out.nw N5.out) (by omega)
      rw[←hJ]at JO
      have HJ:=zH hJ
      have hjl:J.length≤33554432:=by rw[hJ,List.length_append];omega
      have JO:=zH JO
      clear hO5 hF5 hB5 hJ hul
      obtain⟨f0,f1,f2,ff0,ff1,ff2⟩:=box_cells3 F5.out
      generalize hfs:fileOf L n=fn at *
      have HFS:=zH hfs
      clear hfs
      go_wp2_with fail
      refine JO.out.mono ?_
      rintro e w6 ⟨v6,rfl,hv6,n6,hnew6⟩
      have V6:=zH hv6
      have NEW6:=zH hnew6
      have N6:=zH n6
      obtain⟨a6,c6,rfl,-⟩:=hv6.len
      clear f0 f1 f2 ff0 ff1 ff2 hv6 n6 hnew6
      obtain⟨f0,f1,f2,ff0,ff1,ff2⟩:=box_cells3 (N6.out.at_ F5.out)
      go_upto_region 15 with fail
      generalize hW7:w6.setCell ⟨pf,1,none⟩ (.slice a6 J.length c6)=W7
      have HO7:Hid (Only (fun k=>k=pf) w6 W7):=zH (by
       rw[←hW7]
       exact Only.setCell (S:=fun k=>k=pf) (p:=⟨pf,1,none⟩) (Only.refl w6) (fun _=>rfl) _)
      have F7:Hid (W7.heap[pf]? = some (.cells #[.string ⟨n.toArray⟩,.slice a6 J.length c6,.int .i64 fn.synced] 104 (0,0))):=zH (by
       rw[←hW7]
       have:=heap_setCell_at (N6.out.at_ F5.out) 1 (.slice a6 J.length c6)
       simpa using this)
      have NB:Hid (Nw w W7):=zH ((N5.out.trans N6.out).trans' HO7.out (fun k hk e=>by omega))
      have QB:Hid (W7.heap[w.heap.size+1]? = _):=zH (HO7.out.at_ (N6.out.at_ Q5.out) (by omega))
      have PB:Hid (W7.heap[w.heap.size]? = _):=zH (HO7.out.at_ (N6.out.at_ B5.out) (by omega))
      have BB:Hid (BsX X W7 (.slice a6 J.length c6) J):=zH (by
       refine⟨?_,fun _ g hg=>HX.out g (by have:=NEW6.out g hg;have:=N5.out.size;omega)⟩
       have h1:=V6.out.keep HO7.out.size (fun g hg=>HO7.out.block g (V6.out.lt g hg) (fun e=>by have:=NEW6.out g hg;omega))
       exact Vec.rd (f:=u8) h1)
      have hs7:w.heap.size+1<W7.heap.size:=by have:=HO7.out.size;have:=N6.out.size;omega
      have hpf7:pf<W7.heap.size:=lt_of_block F7.out
      clear hW7 f0 f1 f2 ff0 ff1 ff2
      have RX:RefD X W7 (.agg #[.int .i64 most,.slice a L.length cap,.int .i64 (max (left-1) (-1)),.bool false]) ⟨most,L,max (left-1) (-1),false⟩:=⟨_,rfl,HFL.out.nw NB.out⟩
      have RW:=zH (rwith_ok RX.b (Nw.refl W7) n ⟨J,fn.synced⟩ a6 c6 BB.out (by show L.length≤100000;omega))
      clear RX
      obtain⟨b0,b1,b2,b3,bf0,bf1,bf2,bf3⟩:=box_cells PB.out
      obtain⟨f0,f1,f2,ff0,ff1,ff2⟩:=box_cells3 F7.out
      go_wp2_with fail
      refine RW.out.mono ?_
      rintro e w8 ⟨v8,rfl,hr8,n8⟩
      obtain⟨sv8,cs8,rfl,hsv8,hfc8,hnw8⟩:=hr8
      obtain⟨a8,c8,rfl,-⟩:=hsv8.len
      generalize hM:rwith L (n,⟨J,fn.synced⟩)=M at *
      have RR:Hid (FL X w8 (.slice a8 M.length c8) M):=zH ⟨cs8,hsv8,hfc8.nw n8,fun _ g hg=>HX.out g (by have:=hnw8 g hg;have:=NB.out.size;omega)⟩
      have HMM:=zH hM
      have N8:=zH (NB.out.trans n8)
      have Q8:=zH (n8.at_ QB.out)
      have hs8:w.heap.size+1<w8.heap.size:=by have:=n8.size;omega
      clear b0 b1 b2 b3 bf0 bf1 bf2 bf3 f0 f1 f2 ff0 ff1 ff2 hsv8 hfc8 n8 hM
      obtain⟨r0,r1,r2,r3,rf0,rf1,rf2,rf3⟩:=box_cells Q8.out
      have r:Hid (Dsk.rAppend ⟨most,L,left,false⟩ n l=(⟨most,M,max (left-1) (-1),false⟩,0)):=zH (by rw[←HMM.out,HJ.out,←HFS.out];simp[Dsk.rAppend,Dsk.op,HM.out,HZ.out])
      simp only
      go_wp2
      refine bodyPost_ret (v:=.tuple #[.agg #[.int .i64 most,.slice a8 M.length c8,.int .i64 (max (left-1) (-1)),.bool false],.int .i64 0]) (by simp[results,Tryz.results39,go_sem,r0,r1,r2,r3]) rfl ?_
      have hN:=N8.out.trans' (only_set4q w8 (w.heap.size+1) (.int .i64 most) (.slice a8 M.length c8) (.int .i64 (max (left-1) (-1))) (.bool false)) (fun k hk e=>by omega)
      rw[r.out]
      exact⟨_,rfl,⟨_,rfl,RR.out.box Q8.out (only_set4q w8 (w.heap.size+1) (.int .i64 most) (.slice a8 M.length c8) (.int .i64 (max (left-1) (-1))) (.bool false))⟩,hN⟩
end
end Go.Proofs.YtkbenkldfehhlaaGreatDoor
