/-
  Texts merged by a program of this claim's: Ref02D, Lies, OkPlain, SameDisk, Cut.
-/
import Derived.Test.YtkbenkldfehhlaaGreatDoorM13
import Derived.Test.YtkbenkldfehhlaaGreatDoorM9
import Derived.Test.YtkbenkldfehhlaaGreatDoorM5
import Derived.Test.YtkbenkldfehhlaaGreatDoorM6
import Derived.Test.YtkbenkldfehhlaaGreatDoorM10
import Derived.Test.YtkbenkldfehhlaaGreatDoorM1
import Derived.Laws.Slices
namespace Go.Proofs.YtkbenkldfehhlaaGreatDoor
open Go Go.RowKit Go.Sort
set_option maxRecDepth 100000
set_option maxHeartbeats 3200000
section
variable {X:Nat→Prop}
theorem rfind_mem {L:List (Str×DFile)}{n:Str}(h:n∈namesF L):∃(k:Nat) (hk:k<L.length),rfindI L n=k∧L[k].1=n∧fileOf L n=L[k].2:=by
 rcases split_name n L with hn|⟨A,f,B,rfl,hA⟩
 ·exact absurd h hn
 ·refine⟨A.length,by simp,?_,by simp,by simp[fileOf,getF_hit hA]⟩
  refine rfind_at (by simp) (fun j hj hlt e=>?_) (by simp)
  rw[List.getElem_append_left hlt]at e
  exact hA (by rw[←e];exact List.mem_map_of_mem (List.getElem_mem hlt))
theorem rfind_no {L:List (Str×DFile)}{n:Str}(h:n∉namesF L):rfindI L n = -1:=
 rfind_none fun j hj e=>h (by rw[←e];exact List.mem_map_of_mem (List.getElem_mem hj))
theorem rfile_le (L:List (Str×DFile)) (n:Str):(fileOf L n).bytes.length≤usedF L:=by
 by_cases h:n∈namesF L
 ·obtain⟨k,hk,-,-,e⟩:=rfind_mem h
  rw[e]
  have h1:=usedF_take L k hk
  have h2:=usedF_le L (k+1)
  omega
 ·have:getF L n=none:=(getF_none _ _).2 h
  simp[fileOf,this]
theorem only_set4q (w1:World) (q:Nat) (a b c d:Value):Only (fun k=>k=q) w1 ((((w1.setCell ⟨q,0,none⟩ a).setCell ⟨q,1,none⟩ b).setCell ⟨q,2,none⟩ c).setCell ⟨q,3,none⟩ d):=only_set4 w1 q a b c d
theorem Bs.box {w w':World}{v:Value}{l:List UInt8}{q:Nat}{a b:Int}{x:Option Addr}{n c:Nat}{d:Bool}{t:TypeId}(h:Bs w v l) (hb:w.heap[q]? = some (.cells #[.int .i64 a,.slice x n c,.int .i64 b,.bool d] t (0,0))) (hO:Only (fun k=>k=q) w w'):Bs w' v l:=by
 rcases h with h|⟨g,o,cap,rfl,h1,h2,hg,h3⟩
 ·exact .inl h
 ·refine .inr ⟨g,o,cap,rfl,h1,h2,Nat.lt_of_lt_of_le hg hO.size,fun i hi=>hO.cell (h3 i hi) (fun e=>?_)⟩
  have e':g=q:=e
  subst e'
  have h0:=h3 i hi
  simp only[World.cell?,hb]at h0
  generalize o+i=j at h0
  match j with
  |0|1|2|3=>simp[u8]at h0
  |j+4=>simp at h0
theorem FCells.box {w w':World}{q:Nat}{a b:Int}{x:Option Addr}{n c:Nat}{d:Bool}{t:TypeId}(hb:w.heap[q]? = some (.cells #[.int .i64 a,.slice x n c,.int .i64 b,.bool d] t (0,0))) (hO:Only (fun k=>k=q) w w') :
  ∀{L:List (Str×DFile)}{cs:List Value},FCells X w cs L→FCells X w' cs L
 |[],_,h=>h
 |_::_,_,⟨b,cs',h1,h2,h3⟩=>⟨b,cs',h1,⟨h2.1.box hb hO,h2.2⟩,FCells.box hb hO h3⟩
theorem FL.box {w w':World}{v:Value}{L:List (Str×DFile)}{q:Nat}{a b:Int}{x:Option Addr}{n c:Nat}{d:Bool}{t:TypeId}(h:FL X w v L) (hb:w.heap[q]? = some (.cells #[.int .i64 a,.slice x n c,.int .i64 b,.bool d] t (0,0))) (hO:Only (fun k=>k=q) w w'):FL X w' v L:=by
 obtain⟨cs,⟨h0,hs⟩,hF,hG⟩:=h
 refine⟨cs,⟨h0,?_⟩,hF.box hb hO,hG⟩
 rcases hs with hs|⟨g,o,cap,rfl,h1,h2,hg,h3⟩
 ·exact .inl hs
 ·refine .inr ⟨g,o,cap,rfl,h1,h2,Nat.lt_of_lt_of_le hg hO.size,fun j hj=>hO.cell (h3 j hj) (fun e=>?_)⟩
  have e':g=q:=e
  subst e'
  have hl:0<L.length:=by omega
  obtain⟨b',e0,-⟩:=hF.elem 0 hl
  have hlt:0<cs.length:=by omega
  have e1:=h3 0 hlt
  have e2:cs[0]=.string ⟨L[0].1.toArray⟩:=by
   have:=List.getElem?_eq_getElem hlt
   rw[show 0*3=0 from rfl]at e0
   rw[e0]at this
   exact (Option.some.inj this).symm
  rw[e2]at e1
  simp only[World.cell?,hb]at e1
  match o with
  |0|1|2|3=>simp at e1
  |o+4=>simp at e1
abbrev DB (a b c d:Value):Obj:=.cells #[a,b,c,d] 28 (0,0)
theorem rRead_ok {w:World}{v:Value}{r:Dsk}(h:RefD X w v r) (n:Str):Calls Tryz.prog 45 #[v,.string ⟨n.toArray⟩] w fun e w' =>
  ∃v',e=.returned (.tuple #[v',.int .i64 (r.read n).2])∧Bs w' v' (r.read n).1∧Nw w w':=by
 have HR:=zH h
 obtain⟨sv,rfl,hFL⟩:=h
 obtain⟨a,cap,rfl,h1,h2,hel⟩:=hFL.elem
 obtain⟨most,L,left,down⟩:=r
 simp only at h1 h2 hel HR
 have HE:=zH hel
 clear hel hFL
 unfold maxLen at h2
 have HN:Hid (Nw w (w.alloc (.cells #[.int .i64 most,.slice a L.length cap,.int .i64 left,.bool down] 28))):=zH ((Nw.refl w).alloc _)
 cases down
 case true =>
  have r:Hid (Dsk.read ⟨most,L,left,true⟩ n=([],15)):=zH (by simp[Dsk.read])
  rw[r.out]
  go_enter Tryz.func45,Tryz.ntmps45
  go_wp2
  go_ret2
  exact⟨.slice none 0 0,rfl,.inl ⟨_,rfl,rfl⟩,HN.out⟩
 case false =>
  by_cases hn:n∈namesF L
  ·obtain⟨k,hk,hfi,hkn,hfo⟩:=rfind_mem hn
   have r:Hid (Dsk.read ⟨most,L,left,false⟩ n=(L[k].2.bytes,0)):=zH (by
    unfold Dsk.read
    cases hg:getF L n with
    |none=>exact absurd hn ((getF_none _ _).1 hg)
    |some f=>simp[fileOf,hg]at hfo;simp[hfo])
   rw[r.out]
   have HFI:=zH hfi
   obtain⟨g,o,b,rfl,e0,e1,e2,hb⟩:=HE.out k hk
   obtain⟨xa,xc,rfl,-⟩:=hb.len
   have HBS:=zH hb.1
   have E1:=zH e1
   generalize L[k].2.bytes=bb at *
   clear hfi hkn hfo hb e0 e1 e2 r
   go_enter Tryz.func45,Tryz.ntmps45
   go_wp2_with fail
   refine (rFind_ok (HR.out.nw HN.out) n).mono ?_
   rintro e w1 ⟨rfl,n1⟩
   have c1:=n1.cell (HN.out.cell E1.out)
   obtain⟨b0,b1,b2,b3,-⟩:=box_cells (n1.at_ (heap_alloc_new w (DB (.int .i64 most) (.slice (some ⟨g,o,none⟩) L.length cap) (.int .i64 left) (.bool false))))
   have N1:=zH (HN.out.trans n1)
   have hfi:=HFI.out
   simp only at hfi ⊢
   rw[hfi]
   clear hfi n1
   go_wp2
   go_ret2
   exact⟨.slice xa bb.length xc,rfl,HBS.out.nw N1.out,N1.out⟩
  ·have hfi:=rfind_no hn
   have r:Hid (Dsk.read ⟨most,L,left,false⟩ n=([],13)):=zH (by
    unfold Dsk.read
    rw[show getF L n=none from (getF_none _ _).2 hn]
    rfl)
   rw[r.out]
   have HFI:=zH hfi
   clear hfi hn
   go_enter Tryz.func45,Tryz.ntmps45
   go_wp2_with fail
   refine (rFind_ok (HR.out.nw HN.out) n).mono ?_
   rintro e w1 ⟨rfl,n1⟩
   have N1:=zH (HN.out.trans n1)
   have hfi:=HFI.out
   simp only at hfi ⊢
   rw[hfi]
   clear hfi n1
   go_wp2
   go_ret2
   exact⟨.slice none 0 0,rfl,.inl ⟨_,rfl,rfl⟩,N1.out⟩
theorem rRemove_ok {w:World}{v:Value}{r:Dsk}(hX:∀k,w.heap.size≤k→X k) (h:RefD X w v r) (hk:ROk r) (n:Str):Calls Tryz.prog 60 #[v,.string ⟨n.toArray⟩] w fun e w' =>
  ∃v',e=.returned (.tuple #[v',.int .i64 (r.rRemove n).2])∧RefD X w' v' (r.rRemove n).1∧Nw w w':=by
 have HX:=zH hX
 clear hX
 have HR:=zH h
 obtain⟨sv,rfl,hFL⟩:=h
 obtain⟨a,cap,rfl,h1,h2,hel⟩:=hFL.elem
 obtain⟨most,L,left,down⟩:=r
 obtain⟨few,used,most0,most1,arm0,arm1⟩:=hk
 simp only at h1 h2 HR few used most0 most1 arm0 arm1 hel
 have HFL:=zH hFL
 have HE:=zH hel
 simp only at HFL
 clear hFL hel
 unfold maxLen at h2
 cases down
 case true =>
  have r:Hid (Dsk.rRemove ⟨most,L,left,true⟩ n=(⟨most,L,left,true⟩,15)):=zH (by simp[Dsk.rRemove,Dsk.op])
  rw[r.out]
  go_enter Tryz.func60,Tryz.ntmps60
  go_wp2
  refine bodyPost_ret (v:=.tuple #[.agg #[.int .i64 most,.slice a L.length cap,.int .i64 left,.bool true],.int .i64 15]) (by simp[results,Tryz.results60,go_sem]) rfl ?_
  have hN:=((Nw.refl w).alloc (DB (.int .i64 most) (.slice a L.length cap) (.int .i64 left) (.bool true))).alloc (DB (.int .i64 most) (.slice a L.length cap) (.int .i64 left) (.bool true))
  exact⟨_,rfl,⟨_,rfl,HFL.out.nw hN⟩,hN⟩
 case false =>
  have TB:=two_boxes w #[.int .i64 most,.slice a L.length cap,.int .i64 left,.bool false] #[.int .i64 0,.slice none 0 0,.int .i64 0,.bool false] 28 28
  go_enter Tryz.func60,Tryz.ntmps60
  go_wp2_with fail
  generalize (w.alloc (.cells #[.int .i64 most,.slice a L.length cap,.int .i64 left,.bool false] 28)).alloc (.cells #[.int .i64 0,.slice none 0 0,.int .i64 0,.bool false] 28)=W0 at TB ⊢
  obtain⟨t1,t2,t3,t4⟩:=TB
  have T1:=zH t1
  have T2:=zH t2
  have T3:=zH t3
  have T4:=zH t4
  clear t1 t2 t3 t4
  refine (rFind_ok (HR.out.nw T1.out) n).mono ?_
  rintro e w1 ⟨rfl,n1⟩
  have N1:=zH (T1.out.trans n1)
  have B1:=zH (n1.at_ T2.out)
  have Q1:=zH (n1.at_ T3.out)
  have hs1:w.heap.size+1<w1.heap.size:=by have:=n1.size;have:=T4.out;omega
  obtain⟨b0,b1,b2,b3,bf0,bf1,bf2,bf3⟩:=box_cells B1.out
  obtain⟨r0,r1,r2,r3,rf0,rf1,rf2,rf3⟩:=box_cells Q1.out
  simp only
  clear n1
  by_cases hn:n∈namesF L
  case neg =>
   have r:Hid (Dsk.rRemove ⟨most,L,left,false⟩ n=(⟨most,L,left,false⟩,13)):=zH (by simp[Dsk.rRemove,Dsk.op,Dsk.there,hn])
   rw[rfind_no hn]
   clear hn
   go_wp2
   refine bodyPost_ret (v:=.tuple #[.agg #[.int .i64 most,.slice a L.length cap,.int .i64 left,.bool false],.int .i64 13]) (by simp[results,Tryz.results60,go_sem,r0,r1,r2,r3]) rfl ?_
   have hN:=N1.out.trans' (only_set4q w1 (w.heap.size+1) (.int .i64 most) (.slice a L.length cap) (.int .i64 left) (.bool false)) (fun k hk e=>by omega)
   rw[r.out]
   exact⟨_,rfl,⟨_,rfl,HFL.out.nw hN⟩,hN⟩
  case pos =>
   obtain⟨k,hk,hfi,-,-⟩:=rfind_mem hn
   have HN:=zH hn
   rw[hfi]
   clear hfi hn
   go_wp2_with fail
   refine (opn_ok w1 most left a L.length cap false arm0 arm1).mono ?_
   rintro e w2 ⟨n2,he⟩
   have N2:=zH (N1.out.trans n2)
   have B2:=zH (n2.at_ B1.out)
   have Q2:=zH (n2.at_ Q1.out)
   have hs2:w.heap.size+1<w2.heap.size:=by have:=n2.size;omega
   clear b0 b1 b2 b3 bf0 bf1 bf2 bf3 r0 r1 r2 r3 rf0 rf1 rf2 rf3 n2
   obtain⟨b0,b1,b2,b3,bf0,bf1,bf2,bf3⟩:=box_cells B2.out
   obtain⟨r0,r1,r2,r3,rf0,rf1,rf2,rf3⟩:=box_cells Q2.out
   by_cases hz:left=0
   ·have r:Hid (Dsk.rRemove ⟨most,L,left,false⟩ n=(⟨most,L,-1,true⟩,15)):=zH (by simp[Dsk.rRemove,Dsk.op,Dsk.there,HN.out,hz])
    rw[if_pos hz]at he
    subst he
    clear hz
    go_wp2
    refine bodyPost_ret (v:=.tuple #[.agg #[.int .i64 most,.slice a L.length cap,.int .i64 (-1),.bool true],.int .i64 15]) (by simp[results,Tryz.results60,go_sem,r0,r1,r2,r3]) rfl ?_
    have hN:=(N2.out.trans' (only_set4 w2 w.heap.size (.int .i64 most) (.slice a L.length cap) (.int .i64 (-1)) (.bool true)) (fun k hk e=>by omega)).trans' (only_set4q _ (w.heap.size+1) (.int .i64 most) (.slice a L.length cap) (.int .i64 (-1)) (.bool true)) (fun k hk e=>by omega)
    rw[r.out]
    exact⟨_,rfl,⟨_,rfl,HFL.out.nw hN⟩,hN⟩
   ·rw[if_neg hz]at he
    subst he
    go_wp2_with fail
    generalize hW3:(((w2.setCell ⟨w.heap.size,0,none⟩ (.int .i64 most)).setCell ⟨w.heap.size,1,none⟩ (.slice a L.length cap)).setCell ⟨w.heap.size,2,none⟩ (.int .i64 (max (left-1) (-1)))).setCell ⟨w.heap.size,3,none⟩ (.bool false)=W3
    have HO3:Hid (Only (fun k=>k=w.heap.size) w2 W3):=zH (hW3▸only_set4 w2 w.heap.size _ _ _ _)
    have B3:Hid (W3.heap[w.heap.size]? = some (DB (.int .i64 most) (.slice a L.length cap) (.int .i64 (max (left-1) (-1))) (.bool false))):=zH (hW3▸heap_set4 B2.out _ _ _ _)
    have Q3:=zH (HO3.out.at_ Q2.out (by omega))
    have N3:=zH (N2.out.trans' HO3.out (fun k hk e=>by omega))
    have hs3:w.heap.size+1<W3.heap.size:=by have:=HO3.out.size;omega
    clear hW3 b0 b1 b2 b3 bf0 bf1 bf2 bf3 r0 r1 r2 r3 rf0 rf1 rf2 rf3
    have R3:Hid (RefD X W3 (.agg #[.int .i64 most,.slice a L.length cap,.int .i64 (max (left-1) (-1)),.bool false]) ⟨most,L,max (left-1) (-1),false⟩):=zH ⟨_,rfl,HFL.out.nw N3.out⟩
    have r:Hid (Dsk.rRemove ⟨most,L,left,false⟩ n=(⟨most,rwithout L n,max (left-1) (-1),false⟩,0)):=zH (by simp[Dsk.rRemove,Dsk.op,Dsk.there,HN.out,hz])
    have HZ:=zH hz
    clear hz
    refine (rwithout_ok R3.out.b (Nw.refl W3) n (by show L.length≤100000;omega)).mono ?_
    rintro e w4 ⟨v4,rfl,hr4,n4⟩
    obtain⟨sv4,cs4,rfl,hsv4,hfc4,hnw4⟩:=hr4
    obtain⟨a4,c4,rfl,-⟩:=hsv4.len
    have RR:Hid (FL X w4 (.slice a4 (rwithout L n).length c4) (rwithout L n)):=zH ⟨cs4,hsv4,hfc4.nw n4,fun _ g hg=>HX.out g (by have:=hnw4 g hg;have:=N3.out.size;omega)⟩
    have N4:=zH (N3.out.trans n4)
    have Q4:=n4.at_ Q3.out
    obtain⟨r0,r1,r2,r3,rf0,rf1,rf2,rf3⟩:=box_cells Q4
    have hs4:w.heap.size+1<w4.heap.size:=by have:=n4.size;(try simp at this);omega
    have QQ:=zH Q4
    clear hsv4 hfc4 hnw4 n4 Q4
    simp only
    go_wp2
    refine bodyPost_ret (v:=.tuple #[.agg #[.int .i64 most,.slice a4 (rwithout L n).length c4,.int .i64 (max (left-1) (-1)),.bool false],.int .i64 0]) (by simp[results,Tryz.results60,go_sem,r0,r1,r2,r3]) rfl ?_
    have hN:=N4.out.trans' (only_set4q w4 (w.heap.size+1) (.int .i64 most) (.slice a4 (rwithout L n).length c4) (.int .i64 (max (left-1) (-1))) (.bool false)) (fun k hk e=>by omega)
    rw[r.out]
    exact⟨_,rfl,⟨_,rfl,RR.out.box QQ.out (only_set4q w4 (w.heap.size+1) (.int .i64 most) (.slice a4 (rwithout L n).length c4) (.int .i64 (max (left-1) (-1))) (.bool false))⟩,hN⟩
theorem rSync_ok {w:World}{v:Value}{r:Dsk}(hX:∀k,w.heap.size≤k→X k) (h:RefD X w v r) (hk:ROk r) (n:Str):Calls Tryz.prog 79 #[v,.string ⟨n.toArray⟩] w fun e w' =>
  ∃v',e=.returned (.tuple #[v',.int .i64 (r.rSync n).2])∧RefD X w' v' (r.rSync n).1∧Nw w w':=by
 have HX:=zH hX
 clear hX
 have HR:=zH h
 obtain⟨sv,rfl,hFL⟩:=h
 obtain⟨a,cap,rfl,h1,h2,hel⟩:=hFL.elem
 obtain⟨most,L,left,down⟩:=r
 obtain⟨few,used,most0,most1,arm0,arm1⟩:=hk
 simp only at h1 h2 HR few used most0 most1 arm0 arm1 hel
 have HFL:=zH hFL
 have HE:=zH hel
 simp only at HFL
 clear hFL hel
 unfold maxLen at h2
 cases down
 case true =>
  have r:Hid (Dsk.rSync ⟨most,L,left,true⟩ n=(⟨most,L,left,true⟩,15)):=zH (by simp[Dsk.rSync,Dsk.op])
  rw[r.out]
  go_enter Tryz.func79,Tryz.ntmps79
  go_wp2
  refine bodyPost_ret (v:=.tuple #[.agg #[.int .i64 most,.slice a L.length cap,.int .i64 left,.bool true],.int .i64 15]) (by simp[results,Tryz.results79,go_sem]) rfl ?_
  have hN:=((Nw.refl w).alloc (DB (.int .i64 most) (.slice a L.length cap) (.int .i64 left) (.bool true))).alloc (DB (.int .i64 most) (.slice a L.length cap) (.int .i64 left) (.bool true))
  exact⟨_,rfl,⟨_,rfl,HFL.out.nw hN⟩,hN⟩
 case false =>
  have TB:=two_boxes w #[.int .i64 most,.slice a L.length cap,.int .i64 left,.bool false] #[.int .i64 0,.slice none 0 0,.int .i64 0,.bool false] 28 28
  go_enter Tryz.func79,Tryz.ntmps79
  go_wp2_with fail
  generalize (w.alloc (.cells #[.int .i64 most,.slice a L.length cap,.int .i64 left,.bool false] 28)).alloc (.cells #[.int .i64 0,.slice none 0 0,.int .i64 0,.bool false] 28)=W0 at TB ⊢
  obtain⟨t1,t2,t3,t4⟩:=TB
  have T1:=zH t1
  have T2:=zH t2
  have T3:=zH t3
  have T4:=zH t4
  clear t1 t2 t3 t4
  refine (rFind_ok (HR.out.nw T1.out) n).mono ?_
  rintro e w1 ⟨rfl,n1⟩
  have N1:=zH (T1.out.trans n1)
  have B1:=zH (n1.at_ T2.out)
  have Q1:=zH (n1.at_ T3.out)
  have hs1:w.heap.size+1<w1.heap.size:=by have:=n1.size;have:=T4.out;omega
  obtain⟨b0,b1,b2,b3,bf0,bf1,bf2,bf3⟩:=box_cells B1.out
  obtain⟨r0,r1,r2,r3,rf0,rf1,rf2,rf3⟩:=box_cells Q1.out
  simp only
  clear n1
  by_cases hn:n∈namesF L
  case neg =>
   have r:Hid (Dsk.rSync ⟨most,L,left,false⟩ n=(⟨most,L,left,false⟩,13)):=zH (by simp[Dsk.rSync,Dsk.op,Dsk.there,hn])
   rw[rfind_no hn]
   clear hn
   go_wp2
   refine bodyPost_ret (v:=.tuple #[.agg #[.int .i64 most,.slice a L.length cap,.int .i64 left,.bool false],.int .i64 13]) (by simp[results,Tryz.results79,go_sem,r0,r1,r2,r3]) rfl ?_
   have hN:=N1.out.trans' (only_set4q w1 (w.heap.size+1) (.int .i64 most) (.slice a L.length cap) (.int .i64 left) (.bool false)) (fun k hk e=>by omega)
   rw[r.out]
   exact⟨_,rfl,⟨_,rfl,HFL.out.nw hN⟩,hN⟩
  case pos =>
   obtain⟨k,hk,hfi,hkn,hfo⟩:=rfind_mem hn
   have HKL:=zH hk
   have HKN:=zH hkn
   have HFO:=zH hfo
   clear hkn hfo
   have HN:=zH hn
   rw[hfi]
   clear hfi hn
   go_wp2_with fail
   refine (opn_ok w1 most left a L.length cap false arm0 arm1).mono ?_
   rintro e w2 ⟨n2,he⟩
   have N2:=zH (N1.out.trans n2)
   have B2:=zH (n2.at_ B1.out)
   have Q2:=zH (n2.at_ Q1.out)
   have hs2:w.heap.size+1<w2.heap.size:=by have:=n2.size;omega
   clear b0 b1 b2 b3 bf0 bf1 bf2 bf3 r0 r1 r2 r3 rf0 rf1 rf2 rf3 n2
   obtain⟨b0,b1,b2,b3,bf0,bf1,bf2,bf3⟩:=box_cells B2.out
   obtain⟨r0,r1,r2,r3,rf0,rf1,rf2,rf3⟩:=box_cells Q2.out
   by_cases hz:left=0
   ·have r:Hid (Dsk.rSync ⟨most,L,left,false⟩ n=(⟨most,L,-1,true⟩,15)):=zH (by simp[Dsk.rSync,Dsk.op,Dsk.there,HN.out,hz])
    rw[if_pos hz]at he
    subst he
    clear hz
    go_wp2
    refine bodyPost_ret (v:=.tuple #[.agg #[.int .i64 most,.slice a L.length cap,.int .i64 (-1),.bool true],.int .i64 15]) (by simp[results,Tryz.results79,go_sem,r0,r1,r2,r3]) rfl ?_
    have hN:=(N2.out.trans' (only_set4 w2 w.heap.size (.int .i64 most) (.slice a L.length cap) (.int .i64 (-1)) (.bool true)) (fun k hk e=>by omega)).trans' (only_set4q _ (w.heap.size+1) (.int .i64 most) (.slice a L.length cap) (.int .i64 (-1)) (.bool true)) (fun k hk e=>by omega)
    rw[r.out]
    exact⟨_,rfl,⟨_,rfl,HFL.out.nw hN⟩,hN⟩
   ·rw[if_neg hz]at he
    subst he
    go_wp2_with fail
    generalize hW3:(((w2.setCell ⟨w.heap.size,0,none⟩ (.int .i64 most)).setCell ⟨w.heap.size,1,none⟩ (.slice a L.length cap)).setCell ⟨w.heap.size,2,none⟩ (.int .i64 (max (left-1) (-1)))).setCell ⟨w.heap.size,3,none⟩ (.bool false)=W3
    have HO3:Hid (Only (fun k=>k=w.heap.size) w2 W3):=zH (hW3▸only_set4 w2 w.heap.size _ _ _ _)
    have B3:Hid (W3.heap[w.heap.size]? = some (DB (.int .i64 most) (.slice a L.length cap) (.int .i64 (max (left-1) (-1))) (.bool false))):=zH (hW3▸heap_set4 B2.out _ _ _ _)
    have Q3:=zH (HO3.out.at_ Q2.out (by omega))
    have N3:=zH (N2.out.trans' HO3.out (fun k hk e=>by omega))
    have hs3:w.heap.size+1<W3.heap.size:=by have:=HO3.out.size;omega
    clear hW3 b0 b1 b2 b3 bf0 bf1 bf2 bf3 r0 r1 r2 r3 rf0 rf1 rf2 rf3
    have R3:Hid (RefD X W3 (.agg #[.int .i64 most,.slice a L.length cap,.int .i64 (max (left-1) (-1)),.bool false]) ⟨most,L,max (left-1) (-1),false⟩):=zH ⟨_,rfl,HFL.out.nw N3.out⟩
    have r:Hid (Dsk.rSync ⟨most,L,left,false⟩ n=(⟨most,rwith L (n,⟨(fileOf L n).bytes,(fileOf L n).bytes.length⟩),max (left-1) (-1),false⟩,0)):=zH (by simp[Dsk.rSync,Dsk.op,Dsk.there,HN.out,hz])
    have HZ:=zH hz
    clear hz
    obtain⟨g,o,b,rfl,e0,e1,e2,hb⟩:=HE.out k HKL.out
    obtain⟨xa,xc,rfl,-⟩:=hb.len
    have c0:=N3.out.cell e0
    have c1:=N3.out.cell e1
    have c2:=N3.out.cell e2
    have hb3:=zH (hb.nw N3.out)
    have hnm:=HKN.out
    have hfo:=HFO.out
    rw[hnm]at c0
    obtain⟨b0,b1,b2,b3,-⟩:=box_cells B3.out
    have HACT:Hid (L[k].2=fileOf L n):=zH hfo.symm
    generalize L[k]=x at *
    obtain⟨x1,x2,x3⟩:=x
    simp only at c1 c2 hb3 hnm hfo HACT
    clear hb e0 e1 e2 hnm hfo
    have hne1:¬ w.heap.size=W3.heap.size:=by omega
    have hne2:¬ W3.heap.size=w.heap.size:=by omega
    have hlt3:w.heap.size<W3.heap.size:=by omega
    go_wp2_with fail
    have NA:Hid (Nw W3 (W3.alloc (.cells #[.string ⟨n.toArray⟩,.slice xa x2.length xc,.int .i64 x2.length] 104))):=zH ((Nw.refl W3).alloc _)
    have NB:=zH (N3.out.trans NA.out)
    have QB:=zH (NA.out.at_ Q3.out)
    refine (rwith_ok (R3.out.nw NA.out).b (Nw.refl _) n ⟨x2,x2.length⟩ xa xc (hb3.out.nw NA.out) (by show L.length≤100000;omega)).mono ?_
    rintro e w4 ⟨v4,rfl,hr4,n4⟩
    have hx:(⟨x2,x2.length⟩:DFile)=⟨(fileOf L n).bytes,(fileOf L n).bytes.length⟩:=by rw[←HACT.out]
    rw[hx]at hr4
    clear hx
    obtain⟨sv4,cs4,rfl,hsv4,hfc4,hnw4⟩:=hr4
    obtain⟨a4,c4,rfl,-⟩:=hsv4.len
    have RR:Hid (FL X w4 (.slice a4 (rwith L (n,⟨(fileOf L n).bytes,(fileOf L n).bytes.length⟩)).length c4) (rwith L (n,⟨(fileOf L n).bytes,(fileOf L n).bytes.length⟩))):=zH ⟨cs4,hsv4,hfc4.nw n4,fun _ g hg=>HX.out g (by have:=hnw4 g hg;have:=NB.out.size;omega)⟩
    have N4:=zH (NB.out.trans n4)
    have Q4:=n4.at_ QB.out
    obtain⟨r0,r1,r2,r3,rf0,rf1,rf2,rf3⟩:=box_cells Q4
    have hs4:w.heap.size+1<w4.heap.size:=by have:=n4.size;(try simp at this);omega
    have QQ:=zH Q4
    clear hsv4 hfc4 hnw4 n4 Q4
    simp only
    go_wp2
    refine bodyPost_ret (v:=.tuple #[.agg #[.int .i64 most,.slice a4 (rwith L (n,⟨(fileOf L n).bytes,(fileOf L n).bytes.length⟩)).length c4,.int .i64 (max (left-1) (-1)),.bool false],.int .i64 0]) (by simp[results,Tryz.results79,go_sem,r0,r1,r2,r3]) rfl ?_
    have hN:=N4.out.trans' (only_set4q w4 (w.heap.size+1) (.int .i64 most) (.slice a4 (rwith L (n,⟨(fileOf L n).bytes,(fileOf L n).bytes.length⟩)).length c4) (.int .i64 (max (left-1) (-1))) (.bool false)) (fun k hk e=>by omega)
    rw[r.out]
    exact⟨_,rfl,⟨_,rfl,RR.out.box QQ.out (only_set4q w4 (w.heap.size+1) (.int .i64 most) (.slice a4 (rwith L (n,⟨(fileOf L n).bytes,(fileOf L n).bytes.length⟩)).length c4) (.int .i64 (max (left-1) (-1))) (.bool false))⟩,hN⟩
end
set_option maxHeartbeats 800000
section
variable {X Y:Nat→Prop}{w w' w0:World}
theorem FCells.kept (hk:Kept X w w'):∀{L:List (Str×DFile)}{cs:List Value},FCells X w cs L→FCells X w' cs L
 |[],_,h=>h
 |_::_,_,⟨b,cs',h1,h2,h3⟩=>⟨b,cs',h1,⟨h2.1.kept hk h2.2,h2.2⟩,FCells.kept hk h3⟩
theorem SrcV.kept {k:Nat}{v:Value}{n:Nat}{cs:List Value}(h:SrcV k w v n cs) (hk:Kept X w w') (hx:0<cs.length→∀g,v.ownBlock=some g→X g):SrcV k w' v n cs:=by
 obtain⟨h0,hs|⟨g,o,cap,rfl,h1,h2,hg,h3⟩⟩:=h
 ·exact⟨h0,.inl hs⟩
 ·exact⟨h0,.inr ⟨g,o,cap,rfl,h1,h2,Nat.lt_of_lt_of_le hg hk.1,fun j hj=>hk.cell (h3 j hj) (hx (by omega) g rfl)⟩⟩
theorem RefD.kept {v:Value}{r:Dsk}(h:RefD X w v r) (hk:Kept X w w'):RefD X w' v r:=by
 obtain⟨sv,h1,cs,h2,h3,h4⟩:=h
 refine⟨sv,h1,cs,h2.kept hk (fun hp=>h4 (fun e=>?_)),h3.kept hk,h4⟩
 have:=h3.len
 rw[e]at this
 simp at this
 rw[this]at hp
 simp at hp
theorem FCells.mono (hy:∀k,X k→Y k):∀{L:List (Str×DFile)}{cs:List Value},FCells X w cs L→FCells Y w cs L
 |[],_,h=>h
 |_::_,_,⟨b,cs',h1,h2,h3⟩=>⟨b,cs',h1,⟨h2.1,fun hne g hg=>hy g (h2.2 hne g hg)⟩,FCells.mono hy h3⟩
theorem RefD.mono {v:Value}{r:Dsk}(h:RefD X w v r) (hy:∀k,X k→Y k):RefD Y w v r:=by
 obtain⟨sv,h1,cs,h2,h3,h4⟩:=h
 exact⟨sv,h1,cs,h2,h3.mono hy,fun hne g hg=>hy g (h4 hne g hg)⟩
theorem FCells.narrow:∀{L:List (Str×DFile)}{cs:List Value},FCells X w cs L→FCells (fun k=>X k∧k<w.heap.size) w cs L
 |[],_,h=>h
 |_::_,_,⟨b,cs',h1,h2,h3⟩=>⟨b,cs',h1,⟨h2.1,fun hne g hg=>⟨h2.2 hne g hg,h2.1.lt hne g hg⟩⟩,FCells.narrow h3⟩
theorem RefD.narrow {v:Value}{r:Dsk}(h:RefD X w v r):RefD (fun k=>X k∧k<w.heap.size) w v r:=by
 obtain⟨sv,h1,cs,h2,h3,h4⟩:=h
 refine⟨sv,h1,cs,h2,h3.narrow,fun hne g hg=>⟨h4 hne g hg,?_⟩⟩
 have hl:r.files.length≠0:=fun e=>hne (List.eq_nil_of_length_eq_zero e)
 obtain⟨h0,⟨a,rfl,hn⟩|⟨g',o,cap,rfl,h1,h2,hg',h3⟩⟩:=h2
 ·exact absurd hn hl
 ·have e:g'=g:=by simpa [Value.ownBlock] using hg
  omega
variable {b:Nat}{d d' r r':Dsk}{v:Value}{Z:Nat→Prop}
theorem RefD.parts {v:Value}{r:Dsk}(h:RefD X w v r):∃a c,v=.agg #[.int .i64 r.most,.slice a r.files.length c,.int .i64 r.arm,.bool r.down]:=by
 obtain⟨sv,rfl,hl⟩:=h
 obtain⟨a,c,rfl,-⟩:=hl.elem
 exact⟨a,c,rfl⟩
end
section
variable {d d':Dsk}{n:Str}{x:Int}
theorem ok_setF (ok:d.Ok){g:DFile}(hok:okName n=true) (hs:g.synced≤g.bytes.length) (hf:n∈namesF d.files∨d.files.length<200) (hu:(usedF (setF d.files n g):Int)≤d.most):({ d with files:=setF d.files n g }:Dsk).Ok:=by
 rcases split_name n d.files with h|⟨A,f,B,hd,hA⟩
 ·have hl:d.files.length<200:=hf.resolve_left h
  have h1:=ok.add h hok hl
  rw[setF_miss h]at hu ⊢
  refine⟨ok.most0,ok.most1,ok.arm0,ok.arm1,?_,?_,?_,hu,?_⟩
  ·have:=h1.names
   simpa [namesF] using this
  ·have:=h1.named
   simpa [namesF] using this
  ·have:=h1.few
   simpa using this
  ·intro y hy
   rcases List.mem_append.1 hy with hy|hy
   ·exact ok.synced y hy
   ·rw[List.mem_singleton.1 hy];exact hs
 ·rw[hd,setF_hit hA]at hu ⊢
  exact ok.upd hd hs (by rw[usedF_mid]at hu;exact hu)
theorem ok_op (ok:d.Ok){may:Int}{act:List (Str×DFile)→List (Str×DFile)}(hact:may=0→({ d with files:=act d.files }:Dsk).Ok) (hr:d.op may act=(d',x)):d'.Ok:=by
 unfold Dsk.op at hr
 split at hr
 ·obtain⟨rfl,-⟩:=Prod.mk.inj hr;exact ok
 ·split at hr
  ·obtain⟨rfl,-⟩:=Prod.mk.inj hr;exact ok
  ·rename_i hm
   split at hr
   ·obtain⟨rfl,-⟩:=Prod.mk.inj hr
    exact⟨ok.most0,ok.most1,by simp,by simp,ok.names,ok.named,ok.few,ok.used,ok.synced⟩
   ·obtain⟨rfl,-⟩:=Prod.mk.inj hr
    have h:=hact (by omega)
    have:=ok.arm0;have:=ok.arm1
    exact⟨h.most0,h.most1,by simp only;omega,by simp only;omega,h.names,h.named,h.few,h.used,h.synced⟩
theorem mem_of_there (h:d.there n=0):n∈namesF d.files:=by
 unfold Dsk.there at h
 split at h
 ·assumption
 ·exact absurd h (by decide)
theorem ok_append (ok:d.Ok){l:List UInt8}(hr:d.append n l=(d',x)):d'.Ok:=by
 refine ok_op ok (fun hm=>?_) hr
 unfold Dsk.mayAppend at hm
 split at hm
 ·rename_i hok
  split at hm
  ·exact absurd hm (by decide)
  ·rename_i hc
   have h2:=usedF_setF d.files n ⟨(fileOf d.files n).bytes++l,(fileOf d.files n).synced⟩
   have h3:=ok.le n
   simp only[List.length_append]at h2
   have hc1:¬ (d.most<(usedF d.files+l.length:Nat)):=fun h=>hc (.inl h)
   have hc2:¬ (n∉namesF d.files∧200≤d.files.length):=fun h=>hc (.inr h)
   refine ok_setF ok hok (by simp only[List.length_append];omega) ?_ (by omega)
   by_cases hn:n∈namesF d.files
   ·exact .inl hn
   ·refine .inr ?_
    exact Nat.lt_of_not_le fun h=>hc2 ⟨hn,h⟩
 ·exact absurd hm (by decide)
theorem ok_sync (ok:d.Ok) (hr:d.sync n=(d',x)):d'.Ok:=by
 refine ok_op ok (fun hm=>?_) hr
 have hn:=mem_of_there hm
 have h2:=usedF_setF d.files n ⟨(fileOf d.files n).bytes,(fileOf d.files n).bytes.length⟩
 have:=ok.used
 exact ok_setF ok (ok.named n hn) (by simp) (.inl hn) (by simp only at h2;omega)
theorem ok_cut (ok:d.Ok){k:Int}(hr:d.cut n k=(d',x)):d'.Ok:=by
 refine ok_op ok (fun hm=>?_) hr
 unfold Dsk.mayCut at hm
 split at hm
 ·exact absurd hm (by decide)
 ·rename_i f hg
  split at hm
  ·exact absurd hm (by decide)
  ·rename_i hc
   have hn:n∈namesF d.files:=by
    rcases split_name n d.files with h|⟨A,g,B,hd,hA⟩
    ·rw[(getF_none _ _).2 h]at hg;cases hg
    ·rw[hd];simp[namesF]
   have hfo:fileOf d.files n=f:=by unfold fileOf;rw[hg];rfl
   have h2:=usedF_setF d.files n ⟨(fileOf d.files n).bytes.take k.toNat,k.toNat⟩
   have:=ok.used
   simp only[List.length_take]at h2
   rw[hfo]at h2 ⊢
   have hk:¬ (k<0):=fun h=>hc (.inl h)
   have hk2:¬ ((f.bytes.length:Int)<k):=fun h=>hc (.inr h)
   exact ok_setF ok (ok.named n hn) (by simp;omega) (.inl hn) (by omega)
theorem ok_remove (ok:d.Ok) (hr:d.remove n=(d',x)):d'.Ok:=by
 refine ok_op ok (fun hm=>?_) hr
 have hn:=mem_of_there hm
 rcases split_name n d.files with h|⟨A,g,B,hd,hA⟩
 ·exact absurd hn h
 ·rw[show delF d.files n=A++B by rw[hd];exact delF_hit hA]
  exact ok.del hd
theorem ok_rename (ok:d.Ok){a b:Str}(hr:d.rename a b=(d',x)):d'.Ok:=by
 refine ok_op ok (fun hm=>?_) hr
 split at hm
 ·rename_i hb
  exact ok.rename (mem_of_there hm) hb
 ·exact absurd hm (by decide)
end
set_option maxHeartbeats 3200000
section
variable {X:Nat→Prop}
theorem getF_at {L:List (Str×DFile)}(hn:(namesF L).Nodup) (k:Nat) (hk:k<L.length):getF L L[k].1=some L[k].2:=by
 induction L generalizing k with
 |nil=>exact absurd hk (by simp)
 |cons x L ih =>
  obtain⟨m,f⟩:=x
  have hn':m∉namesF L∧(namesF L).Nodup:=by simpa [namesF] using hn
  cases k with
  |zero=>simp[getF]
  |succ k =>
   have hk':k<L.length:=by simpa using hk
   have hne:¬ m=L[k].1:=fun e=>hn'.1 (by rw[e];exact List.mem_map_of_mem (List.getElem_mem hk'))
   simp only[List.getElem_cons_succ,getF,if_neg hne]
   exact ih hn'.2 k hk'
theorem sd2 {wc:World}{b p:Nat}{S:Nat→Prop}{d:Dsk}{most left:Int}{a la:Option Addr}{cap lc:Nat}{down:Bool}{L:List (Str×DFile)}(HD:Hid (DiskIn wc b d S)) (HB:Hid (wc.heap[p]? = some (DB (.int .i64 most) (.slice a L.length cap) (.int .i64 left) (.bool down)))) (HR:Hid (RefD X wc (.agg #[.int .i64 most,.slice a L.length cap,.int .i64 left,.bool down]) ⟨most,L,left,down⟩)) (hdn:Hid (d.down=down)) (hus:Hid (usedF d.files=usedF L)) (hul:Hid (usedF L≤16777216))  {u1 u2 u4 u6 u7 u8 u9 u10 u11 u12 u13 u14 u15 u16 u17 u18 u19 u20 u21 u22 u23 u24 u25 u26 u27 u28 u29 u30 u31 u32 u33 u34 u35 u36 u37 u38 u39 u40 u41 u42 u43 u44 u45 u46 u47 u48 u49 u50 u51 u52 u53 u54 u55 u56 u57 u58 u59 u60 u61 u62 u63 u64 u65 u66 u67 u68 u69 u70 u71 u72 u73 u74 u75 u76 u77 u78 u79 u80 u81 u82 u83 u84 u85 u86 u87 u88 u89 u90 u91 u92 u93 u94 u95 u96 u97:Value}{Q:Exit→Act→World→Prop}(hP:PanicOk Q)
  (hQ:∀(s12 s13 s14 s15 s16 s17 s18 s19 s20 s21 s22 s23 s24 s25 s26 s27 s28 s29 s30:Value)  (wx:World),Nw wc wx→Q .normal ⟨#[.pointer (some ⟨b,0,none⟩),u1,u2,.pointer (some ⟨p,0,none⟩),u4,.slice la L.length lc,u6,u7,u8,u9,u10,u11,s12,s13,s14,s15,s16,s17,s18,s19,s20,s21,s22,s23,s24,s25,s26,s27,s28,s29,s30,.bool false,u32,u33,u34,u35,u36,u37,u38,u39,u40,u41,u42,u43,u44,u45,u46,u47,u48,u49,u50,u51,u52,u53,u54,u55,u56,u57,u58,u59,u60,u61,u62,u63,u64,u65,u66,u67,u68,u69,u70,u71,u72,u73,u74,u75,u76,u77,u78,u79,u80,u81,u82,u83,u84,u85,u86,u87,u88,u89,u90,u91,u92,u93,u94,u95,u96,u97],[]⟩ wx) :
  Code.wp Tryz.prog ((Tryz.f12.body.bind (regionOf 2)).getD .skip) Q ⟨#[.pointer (some ⟨b,0,none⟩),u1,u2,.pointer (some ⟨p,0,none⟩),u4,.slice la L.length lc,u6,u7,u8,u9,u10,u11,u12,u13,u14,u15,u16,u17,u18,u19,u20,u21,u22,u23,u24,u25,u26,u27,u28,u29,u30,u31,u32,u33,u34,u35,u36,u37,u38,u39,u40,u41,u42,u43,u44,u45,u46,u47,u48,u49,u50,u51,u52,u53,u54,u55,u56,u57,u58,u59,u60,u61,u62,u63,u64,u65,u66,u67,u68,u69,u70,u71,u72,u73,u74,u75,u76,u77,u78,u79,u80,u81,u82,u83,u84,u85,u86,u87,u88,u89,u90,u91,u92,u93,u94,u95,u96,u97],[]⟩ wc:=by
 have _hP:=hP
 dsimp only at hQ ⊢
 conv=>arg 2;whnf
 have HQ:=zH hQ
 clear hQ
 obtain⟨b0,b1,b2,b3,-⟩:=box_cells HB.out
 have d0:=cellG b0
 have d1:=cellG b1
 have d2:=cellG b2
 have d3:=cellG b3
 clear b0 b1 b2 b3
 have C1:Hid (∀p':Regrown,Calls Tryz.prog 49 #[.pointer (some ⟨b,0,none⟩)] (grow (redrawn wc p'.d) p'.os) fun e w''=>e=.returned (.bool down)∧∃p'':Regrown,w''=grow (redrawn wc p''.d) p''.os):=zH (fun p'=>quiet_nw fun w2 hw2=>(Down_ok (HD.out.nw hw2)).mono fun e w' ⟨he,hw⟩=>⟨by rw[he,hdn.out],by rw[←hw];exact Nw.refl _⟩)
 have C2:Hid (∀p':Regrown,Calls Tryz.prog 50 #[.pointer (some ⟨b,0,none⟩)] (grow (redrawn wc p'.d) p'.os) fun e w''=>e=.returned (.int .i64 (usedF L))∧∃p'':Regrown,w''=grow (redrawn wc p''.d) p''.os):=zH (fun p'=>quiet_nw fun w2 hw2=>by have:=Used_ok (HD.out.nw hw2);rw[hus.out]at this;exact this)
 have C3:Hid (∀p':Regrown,Calls Tryz.prog 51 #[.agg #[.int .i64 most,.slice a L.length cap,.int .i64 left,.bool down]] (grow (redrawn wc p'.d) p'.os) fun e w''=>e=.returned (.int .i64 (usedF L))∧∃p'':Regrown,w''=grow (redrawn wc p''.d) p''.os):=zH (fun p'=>quiet_nw fun w2 hw2=>rUsed_ok (HR.out.nw hw2) (by show usedF L≤_;have:=hul.out;omega))
 refine wp_region_quiet_below (by kernel_rfl) (by kernel_rfl) ?_
 repeat (first|go_big_quiet_step (first|with_reducible exact C1.out _|with_reducible exact C2.out _|with_reducible exact C3.out _)|quiet_step (first|with_reducible exact C1.out _|with_reducible exact C2.out _|with_reducible exact C3.out _))
 refine wpQuiet_nil ?_
 intro w2 hw2
 exact HQ.out _ _ _ _ _ _ _ _ _ _ _ _ _ _ _ _ _ _ _  _ (Nw.of_regrown hw2)
theorem sd8 {wc:World}{b pf lg lo nl lc k xc:Nat}{S:Nat→Prop}{d:Dsk}{nm:Str}{x2:List UInt8}{x3:Nat}{xa:Option Addr}(hk:k<nl) (_hnl:nl≤lc) (HD:Hid (DiskIn wc b d S)) (HL:Hid (wc.cell? ⟨lg,lo+k,none⟩=some (.string ⟨nm.toArray⟩))) (HF:Hid (wc.heap[pf]? = some (.cells #[.string ⟨nm.toArray⟩,.slice xa x2.length xc,.int .i64 x3] 104 (0,0)))) (hf:Hid (fileOf d.files nm=⟨x2,x3⟩))  {u1 u2 u3 u4 u8 u9 u10 u11 u12 u13 u14 u15 u16 u17 u18 u19 u20 u21 u22 u23 u24 u25 u26 u27 u28 u29 u30 u31 u32 u33 u34 u35 u36 u37 u38 u39 u40 u41 u42 u43 u44 u45 u46 u47 u48 u49 u50 u51 u52 u53 u54 u55 u56 u57 u58 u59 u60 u61 u62 u63 u64 u65 u66 u67 u68 u69 u70 u71 u72 u73 u74 u75 u76 u77 u78 u79 u80 u81 u82 u83 u84 u85 u86 u87 u88 u89 u90 u91 u92 u93 u94 u95 u96 u97:Value}{Q:Exit→Act→World→Prop}(hP:PanicOk Q)
  (hQ:∀(s43 s44 s45 s46 s47 s48 s49 s50 s51 s52 s53 s54 s55 s56 s57 s58 s59 s60 s61 s62 s63 s64 s65 s66 s67 s68 s69 s70 s71:Value)  (wx:World),Nw wc wx→Q .normal ⟨#[.pointer (some ⟨b,0,none⟩),u1,u2,u3,u4,.slice (some ⟨lg,lo,none⟩) nl lc,.int .i64 k,.pointer (some ⟨pf,0,none⟩),u8,u9,u10,u11,u12,u13,u14,u15,u16,u17,u18,u19,u20,u21,u22,u23,u24,u25,u26,u27,u28,u29,u30,u31,u32,u33,u34,u35,u36,u37,u38,u39,u40,u41,u42,s43,s44,s45,s46,s47,s48,s49,s50,s51,s52,s53,s54,s55,s56,s57,s58,s59,s60,s61,s62,s63,s64,s65,s66,s67,s68,s69,s70,s71,.bool false,u73,u74,u75,u76,u77,u78,u79,u80,u81,u82,u83,u84,u85,u86,u87,u88,u89,u90,u91,u92,u93,u94,u95,u96,u97],[]⟩ wx) :
  Code.wp Tryz.prog ((Tryz.f12.body.bind (regionOf 8)).getD .skip) Q ⟨#[.pointer (some ⟨b,0,none⟩),u1,u2,u3,u4,.slice (some ⟨lg,lo,none⟩) nl lc,.int .i64 k,.pointer (some ⟨pf,0,none⟩),u8,u9,u10,u11,u12,u13,u14,u15,u16,u17,u18,u19,u20,u21,u22,u23,u24,u25,u26,u27,u28,u29,u30,u31,u32,u33,u34,u35,u36,u37,u38,u39,u40,u41,u42,u43,u44,u45,u46,u47,u48,u49,u50,u51,u52,u53,u54,u55,u56,u57,u58,u59,u60,u61,u62,u63,u64,u65,u66,u67,u68,u69,u70,u71,u72,u73,u74,u75,u76,u77,u78,u79,u80,u81,u82,u83,u84,u85,u86,u87,u88,u89,u90,u91,u92,u93,u94,u95,u96,u97],[]⟩ wc:=by
 have _hP:=hP
 dsimp only at hQ ⊢
 conv=>arg 2;whnf
 have HQ:=zH hQ
 clear hQ
 obtain⟨f0,f1,f2,-⟩:=box_cells3 HF.out
 have d0:=cellG f0
 have d1:=cellG f1
 have d2:=cellG f2
 have d3:=cellG HL.out
 clear f0 f1 f2
 have hk0:(0:Int)≤(k:Int):=by omega
 have hk1:(k:Int)<(nl:Int):=by omega
 have C1:Hid (∀p':Regrown,Calls Tryz.prog 41 #[.pointer (some ⟨b,0,none⟩),.string ⟨nm.toArray⟩] (grow (redrawn wc p'.d) p'.os) fun e w''=>e=.returned (.int .i64 x2.length)∧∃p'':Regrown,w''=grow (redrawn wc p''.d) p''.os):=zH (fun p'=>quiet_nw fun w2 hw2=>by have:=Size_ok (HD.out.nw hw2) nm;rw[hf.out]at this;exact this)
 have C2:Hid (∀p':Regrown,Calls Tryz.prog 52 #[.pointer (some ⟨b,0,none⟩),.string ⟨nm.toArray⟩] (grow (redrawn wc p'.d) p'.os) fun e w''=>e=.returned (.int .i64 x3)∧∃p'':Regrown,w''=grow (redrawn wc p''.d) p''.os):=zH (fun p'=>quiet_nw fun w2 hw2=>by have:=Synced_ok (HD.out.nw hw2) nm;rw[hf.out]at this;exact this)
 have C3:=C2
 refine wp_region_quiet_below (by kernel_rfl) (by kernel_rfl) ?_
 repeat (first|go_big_quiet_step (first|with_reducible exact C1.out _|with_reducible exact C2.out _|with_reducible exact C3.out _)|quiet_step (first|with_reducible exact C1.out _|with_reducible exact C2.out _|with_reducible exact C3.out _))
 refine wpQuiet_nil ?_
 intro w2 hw2
 exact HQ.out _ _ _ _ _ _ _ _ _ _ _ _ _ _ _ _ _ _ _ _ _ _ _ _ _ _ _ _ _  _ (Nw.of_regrown hw2)
theorem sd11 {wc:World}{p pf xc bc cap:Nat}{most left:Int}{a xa ba:Option Addr}{down:Bool}{L:List (Str×DFile)}{nm:Str}{x2 bl:List UInt8}{x3:Nat}{e:Int}(HB:Hid (wc.heap[p]? = some (DB (.int .i64 most) (.slice a L.length cap) (.int .i64 left) (.bool down)))) (HF:Hid (wc.heap[pf]? = some (.cells #[.string ⟨nm.toArray⟩,.slice xa x2.length xc,.int .i64 x3] 104 (0,0)))) (HX:Hid (Bs wc (.slice xa x2.length xc) x2)) (HBL:Hid (Bs wc (.slice ba bl.length bc) bl)) (hrd:Hid ((bl,e)=if down then ([],15) else (x2,0)))  {u0 u1 u2 u4 u5 u6 u10 u11 u12 u13 u14 u15 u16 u17 u18 u19 u20 u21 u22 u23 u24 u25 u26 u27 u28 u29 u30 u31 u32 u33 u34 u35 u36 u37 u38 u39 u40 u41 u42 u43 u44 u45 u46 u47 u48 u49 u50 u51 u52 u53 u54 u55 u56 u57 u58 u59 u60 u61 u62 u63 u64 u65 u66 u67 u68 u69 u70 u71 u72 u73 u74 u75 u76 u77 u78 u79 u80 u81 u82 u83 u84 u85 u86 u87 u88 u89 u90 u91 u92 u93 u94 u95 u96 u97:Value}{Q:Exit→Act→World→Prop}(hP:PanicOk Q)
  (hQ:∀(s82 s83 s84 s85 s86 s87 s88 s89 s90 s91 s92 s93 s94 s95 s96:Value)  (wx:World),wx=wc→Q .normal ⟨#[u0,u1,u2,.pointer (some ⟨p,0,none⟩),u4,u5,u6,.pointer (some ⟨pf,0,none⟩),.slice ba bl.length bc,.int .i64 e,u10,u11,u12,u13,u14,u15,u16,u17,u18,u19,u20,u21,u22,u23,u24,u25,u26,u27,u28,u29,u30,u31,u32,u33,u34,u35,u36,u37,u38,u39,u40,u41,u42,u43,u44,u45,u46,u47,u48,u49,u50,u51,u52,u53,u54,u55,u56,u57,u58,u59,u60,u61,u62,u63,u64,u65,u66,u67,u68,u69,u70,u71,u72,u73,u74,u75,u76,u77,u78,u79,u80,u81,s82,s83,s84,s85,s86,s87,s88,s89,s90,s91,s92,s93,s94,s95,s96,.bool false],[]⟩ wx) :
  Code.wp Tryz.prog ((Tryz.f12.body.bind (regionOf 11)).getD .skip) Q ⟨#[u0,u1,u2,.pointer (some ⟨p,0,none⟩),u4,u5,u6,.pointer (some ⟨pf,0,none⟩),.slice ba bl.length bc,.int .i64 e,u10,u11,u12,u13,u14,u15,u16,u17,u18,u19,u20,u21,u22,u23,u24,u25,u26,u27,u28,u29,u30,u31,u32,u33,u34,u35,u36,u37,u38,u39,u40,u41,u42,u43,u44,u45,u46,u47,u48,u49,u50,u51,u52,u53,u54,u55,u56,u57,u58,u59,u60,u61,u62,u63,u64,u65,u66,u67,u68,u69,u70,u71,u72,u73,u74,u75,u76,u77,u78,u79,u80,u81,u82,u83,u84,u85,u86,u87,u88,u89,u90,u91,u92,u93,u94,u95,u96,u97],[]⟩ wc:=by
 have _hP:=hP
 dsimp only at hQ ⊢
 conv=>arg 2;whnf
 have HQ:=zH hQ
 clear hQ
 obtain⟨b0,b1,b2,b3,-⟩:=box_cells HB.out
 obtain⟨f0,f1,f2,-⟩:=box_cells3 HF.out
 have h:=hrd.out
 cases down
 ·simp only[Bool.false_eq_true,if_false]at h
  obtain⟨rfl,rfl⟩:=Prod.mk.inj h
  clear h
  go_wp2_with fail
  refine (SameBytes_ok HBL.out HX.out).mono ?_
  rintro e w2 ⟨rfl,rfl⟩
  rw[show (bl==bl)=true by simp]
  go_wp2_with fail
  exact HQ.out _ _ _ _ _ _ _ _ _ _ _ _ _ _ _  _ rfl
 ·simp only[if_true]at h
  obtain⟨rfl,rfl⟩:=Prod.mk.inj h
  clear h
  go_wp2_with fail
  exact HQ.out _ _ _ _ _ _ _ _ _ _ _ _ _ _ _  _ rfl
theorem SameDisk_ok {w:World}{b:Nat}{d r:Dsk}{S:Nat→Prop}{v:Value}(h:DiskIn w b d S) (hr:RefD X w v r) (ho:RefOf d r) :
  Calls Tryz.prog 12 #[.pointer (some ⟨b,0,none⟩),v] w fun e w'=>e=.returned (.bool true)∧Nw w w':=by
 have ok:=h.ok
 have hlist:=ho.list ok
 have HD:=zH h
 have HR:=zH hr
 obtain⟨sv,rfl,hFL⟩:=hr
 obtain⟨a,cap,rfl,h1,h2,hel⟩:=hFL.elem
 obtain⟨most,L,left,down⟩:=r
 have hus:Hid (usedF d.files=usedF L):=zH (ho.used ok).symm
 have hdn:Hid (d.down=down):=zH ho.down.symm
 have hul:Hid (usedF L≤16777216):=zH (ROk.of ok ho).used
 have HO:=zH ho
 simp only at h1 h2 hel hlist HR
 have HE:=zH hel
 have HLS:=zH hlist
 clear hFL hel hlist h ho ok
 unfold maxLen at h2
 have HB0:=zH (heap_alloc_new w (DB (.int .i64 most) (.slice a L.length cap) (.int .i64 left) (.bool down)))
 have N0:=zH ((Nw.refl w).alloc (DB (.int .i64 most) (.slice a L.length cap) (.int .i64 left) (.bool down)))
 go_enter Tryz.func12,Tryz.ntmps12
 go_wp2_with fail
 generalize w.alloc (.cells #[.int .i64 most,.slice a L.length cap,.int .i64 left,.bool down] 28)=W0 at HB0 N0 ⊢
 have LO:=List_ok (HD.out.nw N0.out)
 rw[HLS.out]at LO
 refine LO.mono ?_
 clear LO
 rintro e w1 ⟨v1,rfl,hv1,n1,-⟩
 obtain⟨la,lc,rfl,hl1,hl2,hle⟩:=hv1.elems
 have HLE:=zH hle
 have N1:=zH (N0.out.trans n1)
 have B1:=zH (n1.at_ HB0.out)
 have hnl:(namesF L).length=L.length:=by simp[namesF]
 rw[hnl]at hl1
 clear hv1 hle n1
 rw[hnl]
 have HNL:=zH hnl
 clear hnl
 unfold maxLen at hl2
 go_upto_region 2 with fail
 refine sd2 (zH (HD.out.nw N1.out)) B1 (zH (HR.out.nw N1.out)) hdn hus hul (fun _ _ _ _ _ h=>h) ?_
 intro s12 s13 s14 s15 s16 s17 s18 s19 s20 s21 s22 s23 s24 s25 s26 s27 s28 s29 s30 w2 hw2
 have N2:=zH hw2
 have B2:=zH (hw2.at_ B1.out)
 clear hw2
 go_wp2
 go_loopw [6] (fun i wr=>∃k:Nat,k≤L.length∧i=.int .i64 k∧Nw w2 wr) (fun i _=>L.length-(intOf i).toNat)
 case atStart=>exact⟨0,Nat.zero_le _,rfl,Nw.refl _⟩
 case round =>
  obtain⟨k,hk,rfl,hwr⟩:=hrel
  have HW:=zH hwr
  clear hwr
  have NR:=zH ((N1.out.trans N2.out).trans HW.out)
  have BR:=zH (HW.out.at_ B2.out)
  by_cases hlt:k<L.length
  ·obtain⟨g,o,bb,rfl,c0,c1,c2,hb⟩:=HE.out k hlt
   have c0:=NR.out.cell c0
   have c1:=NR.out.cell c1
   have c2:=NR.out.cell c2
   obtain⟨xa,xc,rfl,-⟩:=hb.len
   obtain⟨lg,lo,rfl,-,hcl⟩:=HLE.out k (by rw[HNL.out];exact hlt)
   have hcl:=(N2.out.trans HW.out).cell hcl
   have hname:(namesF L)[k]'(by rw[HNL.out];exact hlt)=L[k].1:=by simp[namesF]
   rw[hname]at hcl
   have hget:getF L L[k].1=some L[k].2:=getF_at (srt_nodup HO.out.srt) k hlt
   have HX:=zH hb
   have HG:=zH hget
   clear hb hname hget
   obtain⟨b0,b1,b2,b3,-⟩:=box_cells BR.out
   generalize L[k]=x at *
   obtain⟨x1,x2,x3⟩:=x
   simp only at c0 c1 c2 hcl HG HX
   have HCL:=zH (show wr.cell? ⟨lg,lo+k,none⟩=some (.string ⟨x1.toArray⟩) from hcl)
   clear hcl
   go_upto_region 8 with fail
   have F2:=zH (heap_alloc_new wr (.cells #[.string ⟨x1.toArray⟩,.slice xa x2.length xc,.int .i64 x3] 104))
   have NA:=zH ((Nw.refl wr).alloc (.cells #[.string ⟨x1.toArray⟩,.slice xa x2.length xc,.int .i64 x3] 104))
   generalize hpf:wr.heap.size=pf at F2 ⊢
   generalize wr.alloc (.cells #[.string ⟨x1.toArray⟩,.slice xa x2.length xc,.int .i64 x3] 104)=W3 at F2 NA ⊢
   clear c0 c1 c2 b0 b1 b2 b3 hpf
   have hfd:fileOf d.files x1=⟨x2,x3⟩:=by rw[←HO.out.file];simp[fileOf,HG.out]
   have HFD:=zH hfd
   have hrd0:d.read x1=if down then ([],15) else (x2,0):=by
    unfold Dsk.read
    rw[hdn.out,←HO.out.get,HG.out]
   have HRD:=zH hrd0
   clear hfd hrd0
   have N3:=zH (NR.out.trans NA.out)
   refine sd8 hlt hl1 (zH (HD.out.nw N3.out)) (zH (NA.out.cell HCL.out)) F2 HFD (fun _ _ _ _ _ h=>h) ?_
   intro s43 s44 s45 s46 s47 s48 s49 s50 s51 s52 s53 s54 s55 s56 s57 s58 s59 s60 s61 s62 s63 s64 s65 s66 s67 s68 s69 s70 s71 w4 hw4
   have N4:=zH hw4
   clear hw4
   have hcl:=N4.out.cell (NA.out.cell HCL.out)
   have hk0:(0:Int)≤(k:Int):=by omega
   have hk1:(k:Int)<(L.length:Int):=by omega
   go_wp2_with fail
   refine (Read_ok (HD.out.nw (N3.out.trans N4.out)) x1).mono ?_
   rintro e w5 ⟨v5,rfl,hown,n5,-⟩
   obtain⟨ba,bc,hbv,-⟩:=hown.rd.len
   obtain⟨bl,ee,hbe⟩:∃bl ee,d.read x1=(bl,ee):=⟨_,_,rfl⟩
   rw[hbe]at hown hbv ⊢
   simp only at hown hbv
   subst hbv
   have BL:=zH hown.rd
   have N5:=zH n5
   have HBE:=zH hbe
   clear hown n5 hbe hcl
   go_upto_region 11 with fail
   have N35:=zH ((NA.out.trans N4.out).trans N5.out)
   refine sd11 (zH (N35.out.at_ BR.out)) (zH (N5.out.at_ (N4.out.at_ F2.out))) (zH (HX.out.1.nw (NR.out.trans N35.out))) BL (zH (HBE.out.symm.trans HRD.out)) (fun _ _ _ _ _ h=>h) ?_
   intro s82 s83 s84 s85 s86 s87 s88 s89 s90 s91 s92 s93 s94 s95 s96 w6 hw6
   subst hw6
   go_wp2
   go_roundw
   case rel=>exact⟨k+1,by omega,by go_num,HW.out.trans N35.out⟩
   case measure=>simp[intOf];omega
  ·go_wp2
   go_ret
   exact⟨rfl,NR.out⟩
end
end Go.Proofs.YtkbenkldfehhlaaGreatDoor
namespace Go.Proofs.YtkbenkldfehhlaaGreatDoor
open Go Go.RowKit
section
variable {α:Type}{f:α→Value}{w:World}{a:Option Addr}{n c k:Nat}{l:List α}
theorem Rd.take (h:Rd f w (.slice a n c) l) (hk:k≤l.length):Rd f w (sliced a 0 k c 1) (l.take k):=by
 rcases h with ⟨a',h1,rfl⟩|⟨g,o,cap,h1,h2,h3,h4,h5⟩
 ·cases h1
  obtain rfl:k=0:=by simpa using hk
  exact .inl ⟨a,by simp[sliced],by simp⟩
 ·cases h1
  refine .inr ⟨g,o,c,?_,?_,h3,h4,fun i hi=>?_⟩
  ·unfold sliced;split <;> simp[Addr.add,Nat.min_eq_left hk]
  ·rw[List.length_take];omega
  ·rw[List.length_take]at hi
   rw[List.getElem_take]
   exact h5 i (by omega)
end
end Go.Proofs.YtkbenkldfehhlaaGreatDoor
