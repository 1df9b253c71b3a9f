/-
  Texts merged by a program of this claim's: DocOpen, Aw6Plain, Picks, Law6B, Aw6.
-/
import Derived.Test.YtkbenkldfehhlaaGreatDoorM35
import Derived.Test.YtkbenkldfehhlaaGreatDoorM36
import Derived.Test.YtkbenkldfehhlaaGreatDoorM26
import Derived.Test.YtkbenkldfehhlaaGreatDoorM19
import Derived.Test.YtkbenkldfehhlaaGreatDoorM7
import Derived.Test.YtkbenkldfehhlaaGreatDoorM5
import Derived.Test.YtkbenkldfehhlaaGreatDoorM29
import Derived.Test.YtkbenkldfehhlaaGreatDoorM20
import Derived.Test.YtkbenkldfehhlaaGreatDoorM30
import Derived.Lib.SlBytesConst
namespace Go.Proofs.YtkbenkldfehhlaaGreatDoor
open Go Go.RowKit Go.Sort
set_option maxRecDepth 100000
set_option maxHeartbeats 3200000
section
variable {X:Nat→Prop}{d d':Dsk}{v ev:Value}{w wk w':World}{m la m' la':Int}{a a' pa pc2:Option Addr}{n c n' c' pc pd rd rl p K ne:Nat}{dn dn':Bool}{L:Lg}{cs:List Value}
theorem St3.finE (hX:∀k,w.heap.size≤k→X k) (h:St3 X w wk pd rd rl K d m a n c la dn) (hp:Pcs wk (.slice pa L.l.length pc) L.l) (ho:∀g,(Value.slice pa L.l.length pc).ownBlock=some g→(X g∧g<w.heap.size∨K≤g)) (he:Vec 5 wk ev ne cs) (hfe:∀g,ev.ownBlock=some g→K≤g) :
  ∃w4,((((((((((wk.setCell ⟨rd,0,none⟩ (.int .i64 m)).setCell ⟨rd,1,none⟩ (.slice a n c)).setCell ⟨rd,2,none⟩ (.int .i64 la)).setCell ⟨rd,3,none⟩ (.bool dn)).setCell ⟨rl,0,none⟩ (.int .i64 L.size)).setCell ⟨rl,1,none⟩ (.slice pa L.l.length pc)).setCell ⟨rl,2,none⟩ (.int .i64 L.n)).setCell ⟨rl,3,none⟩ (.int .i64 L.acked)).setCell ⟨rl,4,none⟩ (.int .i64 L.bytes)).setCell ⟨rl,5,none⟩ (.bool L.over))=w4 ∧
   RD X w4 (.agg #[.int .i64 m,.slice a n c,.int .i64 la,.bool dn]) d∧LogV X w4 (.agg #[.int .i64 L.size,.slice pa L.l.length pc,.int .i64 L.n,.int .i64 L.acked,.int .i64 L.bytes,.bool L.over]) L∧Nw w w4 ∧
   w4.heap[rd]? = some (DB (.int .i64 m) (.slice a n c) (.int .i64 la) (.bool dn))∧w4.heap[rl]? = some (logB L pa pc)∧Vec 5 w4 ev ne cs:=by
 obtain⟨w4,h1,h2,h3,h4,h5,h6⟩:=h.fin hX hp ho
 refine⟨w4,h1,h2,h3,h4,h5,h6,?_⟩
 have hO1:=only_set4 wk rd (.int .i64 m) (.slice a n c) (.int .i64 la) (.bool dn)
 have hO2:=only_set6 ((((wk.setCell ⟨rd,0,none⟩ (.int .i64 m)).setCell ⟨rd,1,none⟩ (.slice a n c)).setCell ⟨rd,2,none⟩ (.int .i64 la)).setCell ⟨rd,3,none⟩ (.bool dn)) rl (.int .i64 L.size) (.slice pa L.l.length pc) (.int .i64 L.n) (.int .i64 L.acked) (.int .i64 L.bytes) (.bool L.over)
 have hO:Only (fun k=>k=rd∨k=rl) wk _:=(hO1.mono (fun k _ hk=>.inl hk)).trans (hO2.mono (fun k _ hk=>.inr hk))
 rw[h1]at hO
 have hhi:=h.hi
 exact he.keep hO.size (fun g hg=>hO.block g (he.lt g hg) (fun e=>by have:=hfe g hg;rcases e with e|e <;> subst e <;> omega))
theorem St3.made (h:St3 X w wk pd rd rl K d m a n c la dn) (hb:∃u0 u1 u2 u3 u4 u5,wk.heap[p]? = some (LB u0 u1 u2 u3 u4 u5)) (hK:K≤p)
  (hd:RD (fun k=>X k∧k<w.heap.size∨K≤k∧k≠p) w' (.agg #[.int .i64 m',.slice a' n' c',.int .i64 la',.bool dn']) d') (hp:Pcs w' (.slice pa L.l.length pc) L.l) (ho:∀g,(Value.slice pa L.l.length pc).ownBlock=some g→(X g∧g<w.heap.size∨K≤g∧g≠p))
  (hn:Nw wk w') (he:Vec 5 wk ev ne cs) (hfe:∀g,ev.ownBlock=some g→K≤g∧g≠p) :
  ∃w2,((((((((((w'.setCell ⟨pd,0,none⟩ (.int .i64 m')).setCell ⟨pd,1,none⟩ (.slice a' n' c')).setCell ⟨pd,2,none⟩ (.int .i64 la')).setCell ⟨pd,3,none⟩ (.bool dn')).setCell ⟨p,0,none⟩ (.int .i64 L.size)).setCell ⟨p,1,none⟩ (.slice pa L.l.length pc)).setCell ⟨p,2,none⟩ (.int .i64 L.n)).setCell ⟨p,3,none⟩ (.int .i64 L.acked)).setCell ⟨p,4,none⟩ (.int .i64 L.bytes)).setCell ⟨p,5,none⟩ (.bool L.over))=w2 ∧
   St3 X w w2 pd rd rl K d' m' a' n' c' la' dn'∧w2.heap[p]? = some (logB L pa pc)∧Pcs w2 (.slice pa L.l.length pc) L.l∧Vec 5 w2 ev ne cs:=by
 have h2:=h.on hn
 obtain⟨u0,u1,u2,u3,u4,u5,hb⟩:=hb
 have hpl:=lt_of_block hb
 have hO1:=only_set4 w' pd (.int .i64 m') (.slice a' n' c') (.int .i64 la') (.bool dn')
 have hlo:=h.lo
 have hhi:=h.hi
 have hB1:=heap_set4 h2.bd (.int .i64 m') (.slice a' n' c') (.int .i64 la') (.bool dn')
 have hQ1:=hO1.at_ (hn.at_ hb) (by omega)
 generalize ((((w'.setCell ⟨pd,0,none⟩ (.int .i64 m')).setCell ⟨pd,1,none⟩ (.slice a' n' c')).setCell ⟨pd,2,none⟩ (.int .i64 la')).setCell ⟨pd,3,none⟩ (.bool dn'))=w3 at hO1 hB1 hQ1 ⊢
 have hO2:=only_set6 w3 p (.int .i64 L.size) (.slice pa L.l.length pc) (.int .i64 L.n) (.int .i64 L.acked) (.int .i64 L.bytes) (.bool L.over)
 have hQ2:=heap_set6 hQ1 (.int .i64 L.size) (.slice pa L.l.length pc) (.int .i64 L.n) (.int .i64 L.acked) (.int .i64 L.bytes) (.bool L.over)
 generalize ((((((w3.setCell ⟨p,0,none⟩ (.int .i64 L.size)).setCell ⟨p,1,none⟩ (.slice pa L.l.length pc)).setCell ⟨p,2,none⟩ (.int .i64 L.n)).setCell ⟨p,3,none⟩ (.int .i64 L.acked)).setCell ⟨p,4,none⟩ (.int .i64 L.bytes)).setCell ⟨p,5,none⟩ (.bool L.over))=w4 at hO2 hQ2 ⊢
 have hO:Only (fun k=>k=pd∨k=p) w' w4:=(hO1.mono (fun k _ hk=>.inl hk)).trans (hO2.mono (fun k _ hk=>.inr hk))
 obtain⟨v0,v1,v2,v3,hr⟩:=h2.brd
 obtain⟨x0,x1,x2,x3,x4,x5,hq⟩:=h2.brl
 obtain⟨e1,e2,e3⟩:=h.ne
 have hsz:=h.nw.size
 have hpw:w.heap.size≤p:=by omega
 refine⟨w4,rfl,⟨h2.nw.trans' hO (fun k hk e=>by rcases e with e|e <;> subst e <;> omega),h.lo,h.hi,Nat.le_trans h2.kk hO.size,h.ne,hO2.at_ hB1 (by omega),⟨v0,v1,v2,v3,hO.at_ hr (by rintro (e|e) <;> omega)⟩,⟨x0,x1,x2,x3,x4,x5,hO.at_ hq (by rintro (e|e) <;> omega)⟩,?_⟩,hQ2,⟨SrcV.kept (X:=fun k=>¬ (k=pd∨k=p)) hp.src ⟨hO.size,fun k hk hl=>hO.block k hl hk⟩ (fun _ g hg e=>?_),hp.ok⟩,?_⟩
 ·refine (hd.put hO (fun k hk _ e=>?_)).mono (fun k hk=>hk.imp id (fun h=>h.1))
  rcases e with e|e <;> subst e <;> omega
 ·rcases e with e|e <;> subst e <;> rcases ho _ hg with hk|hk <;> omega
 ·have he2:=he.nw hn
  exact he2.keep hO.size (fun g hg=>hO.block g (he2.lt g hg) (fun e=>by have:=hfe g hg;rcases e with e|e <;> subst e <;> omega))
def OpenP (X:Nat→Prop) (w:World) (r:OpenR) (L:Lg) (z:Ending) (w':World):Prop:=∃(m:Int) (a:Option Addr) (n c:Nat) (la:Int) (dn:Bool) (pa:Option Addr) (pc:Nat) (ev:Value),
 z=.returned (.tuple #[.agg #[.int .i64 m,.slice a n c,.int .i64 la,.bool dn],.agg #[.int .i64 L.size,.slice pa L.l.length pc,.int .i64 L.n,.int .i64 L.acked,.int .i64 L.bytes,.bool L.over],ev,.int .i64 r.e]) ∧
 RD X w' (.agg #[.int .i64 m,.slice a n c,.int .i64 la,.bool dn]) r.d∧LogV X w' (.agg #[.int .i64 L.size,.slice pa L.l.length pc,.int .i64 L.n,.int .i64 L.acked,.int .i64 L.bytes,.bool L.over]) L∧OwnE w w' ev r.es∧(L.l≠[]∨pa=none)
end
theorem dOpen_ok {X:Nat→Prop}{w:World}{v:Value}{d:Dsk}(h:RD X w v d) (hX:∀k,w.heap.size≤k→X k) (hsm:d.most≤14000000) (size:Int) :
  Calls Tryz.prog 18 #[v,.int .i64 size] w (OpenP X w (openD unpackB d size) (if (openD unpackB d size).e=0 then (openD unpackB d size).L else noLg)):=by
 obtain⟨R,hR⟩:=zN (openD unpackB d size)
 rw[hR]
 obtain⟨LR,hLR⟩:=zN ((if R.e=0 then R.L else noLg))
 have HLR:=zH hLR
 rw[hLR]
 unfold openD at hR
 obtain⟨⟨d1,es,ps,x1⟩,hm⟩:=zN (mendD unpackB d)
 rw[hm]at hR
 simp only at hR
 have HR:=zH hR
 have HM:=zH hm
 have HSM:=zH hsm
 clear hR hLR hm hsm
 obtain⟨m0,a0,n0,c0,la0,dn0,rfl⟩:=h.parts
 have S0:=zH (St3.new h)
 have HX:=zH hX
 clear h hX
 obtain⟨w0,hw0⟩:=zN (((w.alloc (DB (.int .i64 m0) (.slice a0 n0 c0) (.int .i64 la0) (.bool dn0))).alloc (DB (.int .i64 0) (.slice none 0 0) (.int .i64 0) (.bool false))).alloc (LB (.int .i64 0) (.slice none 0 0) (.int .i64 0) (.int .i64 0) (.int .i64 0) (.bool false)))
 rw[hw0]at S0
 unfold LB DB at hw0
 go_enter Tryz.func18,Tryz.ntmps18
 go_upto_region 1 with fail
 clear hw0
 generalize w.heap.size+3=K at S0
 generalize w.heap.size+1+1=rl at S0 ⊢
 generalize w.heap.size+1=rd at S0 ⊢
 generalize w.heap.size=pd at S0 ⊢
 by_cases hs1:size<64
 case pos =>
  have y1:decide (size<64)=true:=by simpa using hs1
  have HS1:=zH hs1
  clear hs1
  have HE:Hid (R.d=d∧R.es=[]∧R.e=2):=zH (by rw[←HR.out,if_pos (.inl HS1.out)];exact⟨rfl,rfl,rfl⟩)
  have HIF:Hid (LR=noLg):=zH (by rw[←HLR.out,HE.out.2.2];exact if_neg (by first|exact (by decide)|simp))
  obtain⟨⟨b0,b1,b2,b3⟩,⟨u0,u1,u2,u3,r0,r1,r2,r3,f0,f1,f2,f3⟩,⟨v0,v1,v2,v3,v4,v5,⟨s0,s1,s2,s3,s4,s5⟩,g0,g1,g2,g3,g4,g5⟩,e1,e2,e3⟩:=S0.out.told
  go_wp2
  obtain⟨w9,hw9,D9,V9,N9,BD9,BL9⟩:=S0.out.fin0 HX.out
  rw[hw9]
  obtain⟨e0,e1,e2,e3,-⟩:=box_cells BD9
  obtain⟨⟨j0,j1,j2,j3,j4,j5⟩,-⟩:=lb_cells BL9
  refine bodyPost_ret (v:=.tuple #[.agg #[.int .i64 m0,.slice a0 n0 c0,.int .i64 la0,.bool dn0],.agg #[.int .i64 0,.slice none 0 0,.int .i64 0,.int .i64 0,.int .i64 0,.bool false],.slice none 0 0,.int .i64 2]) (by simp[results,Tryz.results18,go_sem,e0,e1,e2,e3,j0,j1,j2,j3,j4,j5]) rfl ?_
  rw[HIF.out]
  obtain⟨E1,E2,E3⟩:=HE.out
  refine⟨m0,a0,n0,c0,la0,dn0,none,0,_,by rw[E3];rfl,by rw[E1];exact D9,V9,by rw[E2];exact OwnE.nil N9,.inr rfl⟩
 have y1:decide (size<64)=false:=by simpa using hs1
 by_cases hs2:16777216<size
 case pos =>
  have y2:decide ((16777216:Int)<size)=true:=by simpa using hs2
  have HS1:=zH hs2
  clear hs1 hs2
  have HE:Hid (R.d=d∧R.es=[]∧R.e=2):=zH (by rw[←HR.out,if_pos (.inr HS1.out)];exact⟨rfl,rfl,rfl⟩)
  have HIF:Hid (LR=noLg):=zH (by rw[←HLR.out,HE.out.2.2];exact if_neg (by first|exact (by decide)|simp))
  obtain⟨⟨b0,b1,b2,b3⟩,⟨u0,u1,u2,u3,r0,r1,r2,r3,f0,f1,f2,f3⟩,⟨v0,v1,v2,v3,v4,v5,⟨s0,s1,s2,s3,s4,s5⟩,g0,g1,g2,g3,g4,g5⟩,e1,e2,e3⟩:=S0.out.told
  go_wp2
  obtain⟨w9,hw9,D9,V9,N9,BD9,BL9⟩:=S0.out.fin0 HX.out
  rw[hw9]
  obtain⟨e0,e1,e2,e3,-⟩:=box_cells BD9
  obtain⟨⟨j0,j1,j2,j3,j4,j5⟩,-⟩:=lb_cells BL9
  refine bodyPost_ret (v:=.tuple #[.agg #[.int .i64 m0,.slice a0 n0 c0,.int .i64 la0,.bool dn0],.agg #[.int .i64 0,.slice none 0 0,.int .i64 0,.int .i64 0,.int .i64 0,.bool false],.slice none 0 0,.int .i64 2]) (by simp[results,Tryz.results18,go_sem,e0,e1,e2,e3,j0,j1,j2,j3,j4,j5]) rfl ?_
  rw[HIF.out]
  obtain⟨E1,E2,E3⟩:=HE.out
  refine⟨m0,a0,n0,c0,la0,dn0,none,0,_,by rw[E3];rfl,by rw[E1];exact D9,V9,by rw[E2];exact OwnE.nil N9,.inr rfl⟩
 have y2:decide ((16777216:Int)<size)=false:=by simpa using hs2
 have HSZ:Hid (64≤size∧size≤16777216):=zH (by omega)
 have HR2:Hid ((if x1≠0 then (⟨d1,newLg size,[],x1⟩:OpenR) else if ps=[] then (if (createD d1 size).2≠0 then ⟨(createD d1 size).1,newLg size,[],(createD d1 size).2⟩ else ⟨(createD d1 size).1,newLg size,es,0⟩) else
   (if (resumeD d1 size ps es.length).2≠0 then ⟨(resumeD d1 size ps es.length).1,newLg size,[],(resumeD d1 size ps es.length).2⟩ else ⟨(resumeD d1 size ps es.length).1,onLg d1 size ps es.length,es,0⟩))=R):=zH (by rw[←HR.out,if_neg (show ¬ (size<64∨16777216<size) by omega)])
 clear hs1 hs2 HR
 have CM:=zH (dMend_ok S0.out.rdk S0.out.fresh HSM.out)
 rw[HM.out]at CM
 obtain⟨b0,b1,b2,b3,k0,k1,k2,k3⟩:=box_cells S0.out.bd
 go_upto_region 3 with fail
 go_wp2_with fail
 refine CM.out.mono ?_
 rintro z w1 ⟨m1,a1,n1,c1,la1,dn1,ev,pv,rfl,dd,oe,op⟩
 obtain⟨w2,hw2,s2,o2⟩:=S0.out.step dd oe.2.1
 obtain⟨ea,ec,rfl,-⟩:=oe.1.len
 obtain⟨pa0,pc0,rfl,-,-⟩:=op.pcs.elem
 have S2:=zH s2
 have he2:Vec 5 w2 (.slice ea es.length ec) es.length (es.flatMap evV):=oe.1.keep o2.size (fun g hg=>o2.block g (oe.1.lt g hg) (fun e=>by have:=oe.2.2 g hg;have h1:=S0.out.hi;have h2:=S0.out.kk;omega))
 have hp2:Vec 4 w2 (.slice pa0 ps.length pc0) ps.length (ps.flatMap pcV):=op.1.keep o2.size (fun g hg=>o2.block g (op.1.lt g hg) (fun e=>by have:=op.2.2.2 g hg;have h1:=S0.out.hi;have h2:=S0.out.kk;omega))
 have E2:=zH he2
 have P2:Hid (Pcs w2 (.slice pa0 ps.length pc0) ps):=zH ⟨hp2.src,op.2.1⟩
 have FE:Hid (∀g,(Value.slice ea es.length ec).ownBlock=some g→K≤g∧g<w2.heap.size):=zH (fun g hg=>⟨Nat.le_trans S0.out.kk (oe.2.2 g hg),he2.lt g hg⟩)
 have FP:Hid (∀g,(Value.slice pa0 ps.length pc0).ownBlock=some g→K≤g∧g<w2.heap.size):=zH (fun g hg=>⟨Nat.le_trans S0.out.kk (op.2.2.2 g hg),hp2.lt g hg⟩)
 obtain⟨-,-,-,-,g0,g1,g2,g3⟩:=box_cells (S0.out.on oe.2.1).bd
 obtain⟨i0,i1,i2,i3,-⟩:=box_cells (S0.out.on oe.2.1).bd
 have hbl:=lt_of_block (S0.out.on oe.2.1).bd
 clear CM dd oe op s2 o2 he2 hp2 b0 b1 b2 b3 k0 k1 k2 k3
 obtain⟨ne,hne⟩:=zN (es.length)
 obtain⟨np,hnp⟩:=zN (ps.length)
 rw[hne]at HR2 E2 FE
 rw[hnp]at P2 FP
 rw[hne,hnp]
 have HNE:=zH hne
 have HNP:=zH hnp
 clear hne hnp
 go_upto_region 4 with fail
 (try rw[hw2])
 clear hw2 g0 g1 g2 g3 i0 i1 i2 i3 hbl y1 y2
 by_cases h1:x1=0
 case neg =>
  have q1:(x1 !=0)=true:=by simpa using h1
  have HX1:=zH h1
  clear h1
  have HE:Hid (R.d=d1∧R.es=[]∧R.e=x1):=zH (by rw[←HR2.out,if_pos HX1.out];exact⟨rfl,rfl,rfl⟩)
  have HIF:Hid (LR=noLg):=zH (by rw[←HLR.out,HE.out.2.2];exact if_neg (by first|exact HX1.out|simp))
  obtain⟨⟨b0,b1,b2,b3⟩,⟨u0,u1,u2,u3,r0,r1,r2,r3,f0,f1,f2,f3⟩,⟨v0,v1,v2,v3,v4,v5,⟨s0,s1,s2,s3,s4,s5⟩,g0,g1,g2,g3,g4,g5⟩,e1,e2,e3⟩:=S2.out.told
  go_wp2
  obtain⟨w9,hw9,D9,V9,N9,BD9,BL9⟩:=S2.out.fin0 HX.out
  rw[hw9]
  obtain⟨e0,e1,e2,e3,-⟩:=box_cells BD9
  obtain⟨⟨j0,j1,j2,j3,j4,j5⟩,-⟩:=lb_cells BL9
  refine bodyPost_ret (v:=.tuple #[.agg #[.int .i64 m1,.slice a1 n1 c1,.int .i64 la1,.bool dn1],.agg #[.int .i64 0,.slice none 0 0,.int .i64 0,.int .i64 0,.int .i64 0,.bool false],.slice none 0 0,.int .i64 x1]) (by simp[results,Tryz.results18,go_sem,e0,e1,e2,e3,j0,j1,j2,j3,j4,j5]) rfl ?_
  rw[HIF.out]
  obtain⟨E1,E2,E3⟩:=HE.out
  refine⟨m1,a1,n1,c1,la1,dn1,none,0,_,by rw[E3];rfl,by rw[E1];exact D9,V9,by rw[E2];exact OwnE.nil N9,.inr rfl⟩
 subst h1
 have HR3:Hid ((if ps=[] then (if (createD d1 size).2≠0 then (⟨(createD d1 size).1,newLg size,[],(createD d1 size).2⟩:OpenR) else ⟨(createD d1 size).1,newLg size,es,0⟩) else
   (if (resumeD d1 size ps ne).2≠0 then ⟨(resumeD d1 size ps ne).1,newLg size,[],(resumeD d1 size ps ne).2⟩ else ⟨(resumeD d1 size ps ne).1,onLg d1 size ps ne,es,0⟩))=R):=zH (by rw[←HR2.out,if_neg (show ¬ ((0:Int)≠0) by simp)])
 clear HR2
 have NA:=zH ((Nw.refl w2).alloc (LB (.int .i64 0) (.slice none 0 0) (.int .i64 0) (.int .i64 0) (.int .i64 0) (.bool false)))
 have BA:=zH (heap_alloc_new w2 (LB (.int .i64 0) (.slice none 0 0) (.int .i64 0) (.int .i64 0) (.int .i64 0) (.bool false)))
 have RN:=zH (S2.out.rdk.narrow.nw NA.out)
 obtain⟨p,hp⟩:=zN (w2.heap.size)
 have HPK:Hid (K≤p):=zH (by rw[←hp];exact S2.out.kk)
 rw[hp]at BA RN FE FP
 go_upto_region 7 with fail
 rw[show (Obj.cells #[.int .i64 0,.slice none 0 0,.int .i64 0,.int .i64 0,.int .i64 0,.bool false] 49)=LB (.int .i64 0) (.slice none 0 0) (.int .i64 0) (.int .i64 0) (.int .i64 0) (.bool false) from rfl]
 generalize w2.alloc (LB (.int .i64 0) (.slice none 0 0) (.int .i64 0) (.int .i64 0) (.int .i64 0) (.bool false))=w3 at NA BA RN ⊢
 (try rw[hp])
 have S3:=zH (S2.out.on NA.out)
 have E3:=zH (E2.out.nw NA.out)
 have P3:=zH (P2.out.nw NA.out)
 have HPL:Hid (p<w3.heap.size):=zH (lt_of_block BA.out)
 have RZ:Hid (RD (fun k=>X k∧k<w.heap.size∨K≤k∧k≠p) w3 (.agg #[.int .i64 m1,.slice a1 n1 c1,.int .i64 la1,.bool dn1]) d1):=zH (RN.out.mono (fun k hk=>hk.1.imp id (fun h=>⟨h,by omega⟩)))
 have HZ:Hid (∀k,w3.heap.size≤k→(X k∧k<w.heap.size∨K≤k∧k≠p)):=zH (fun k hk=>.inr ⟨by have:=S3.out.kk;omega,by have:=HPL.out;omega⟩)
 clear hp NA RN E2 P2 S2
 obtain⟨tb,htb⟩:=zN (((np:Int)==0))
 have htb2:(np==0)=tb:=by rw[←htb,Bool.eq_iff_iff];simp
 have HTB:=zH htb2
 obtain⟨⟨d4,x4⟩,hq4⟩:=zN ((if ps=[] then createD d1 size else resumeD d1 size ps ne))
 obtain⟨L4,hL4⟩:=zN ((if x4=0 then (if ps=[] then newLg size else onLg d1 size ps ne) else noLg))
 have HQ4:=zH hq4
 have HL4:=zH hL4
 have HR5:Hid (R.d=d4∧R.e=x4∧(x4≠0→R.es=[])∧(x4=0→R.es=es)∧LR=L4):=zH (by
  rw[←HLR.out,←HR3.out,←hL4]
  by_cases hps:ps=[]
  ·rw[if_pos hps]at hq4 ⊢
   rw[hq4]
   by_cases h4:x4=0
   ·subst h4;simp[hps]
   ·simp[h4]
  ·rw[if_neg hps]at hq4 ⊢
   rw[hq4]
   by_cases h4:x4=0
   ·subst h4;simp[hps]
   ·simp[h4])
 clear hq4 hL4 HR3
 go_upto_if 34 with fail
 clear htb htb2
 go_cut [10] (fun xv wx=>xv=.int .i64 x4∧∃(m:Int) (a:Option Addr) (n c:Nat) (la:Int) (dn:Bool) (pa:Option Addr) (pc:Nat),St3 X w wx pd rd rl K d4 m a n c la dn∧wx.heap[p]? = some (logB L4 pa pc)∧Pcs wx (.slice pa L4.l.length pc) L4.l∧(∀g,(Value.slice pa L4.l.length pc).ownBlock=some g→(X g∧g<w.heap.size∨K≤g))∧Vec 5 wx (.slice ea ne ec) ne (es.flatMap evV)∧(L4.l≠[]∨pa=none))
 case first =>
  cases tb
  ·have HPS:Hid (¬ ps=[]):=zH (by
    have h:=HTB.out
    rw[←HNP.out]at h
    intro he;rw[he]at h;simp at h)
   have h4:=HQ4.out
   have h5:=HL4.out
   rw[if_neg HPS.out]at h4 h5
   have C:=dResume_ok RZ.out HZ.out (pv:=.slice pa0 np pc0) P3.out (fun _ g hg=>.inr ⟨(FP.out g hg).1,by have:=(FP.out g hg).2;omega⟩) HSZ.out ((ne:Nat):Int)
   rw[h4]at C
   simp only[Int.toNat_natCast]at C
   rw[h5]at C
   have C:=zH C
   clear h4 h5
   obtain⟨b0,b1,b2,b3,-⟩:=box_cells S3.out.bd
   go_wp2_with fail
   refine C.out.mono ?_
   rintro z w5 ⟨m5,a5,n5,c5,la5,dn5,pa5,pc5,rfl,dd,lv,nn,hpn⟩
   obtain⟨hp5,ho5⟩:=lv.at_
   obtain⟨w6,hw6,s6,b6,p6,e6⟩:=S3.out.made (L:=L4) ⟨_,_,_,_,_,_,BA.out⟩ HPK.out dd hp5 ho5 nn E3.out (fun g hg=>⟨(FE.out g hg).1,by have:=(FE.out g hg).2;omega⟩)
   have S6:=zH s6
   have B6:=zH b6
   have P6:=zH p6
   have E6:=zH e6
   have O6:=zH ho5
   have H6:=zH hpn
   obtain⟨y0,y1,y2,y3,g0,g1,g2,g3⟩:=box_cells (S3.out.on nn).bd
   obtain⟨⟨z0,z1,z2,z3,z4,z5⟩,t0,t1,t2,t3,t4,t5⟩:=lb_cells (nn.at_ BA.out)
   have hbl:=lt_of_block (S3.out.on nn).bd
   have hbl2:=lt_of_block (nn.at_ BA.out)
   have hpp:¬ p=pd:=by have:=HPK.out;have h2:=S3.out.hi;omega
   have hpp2:¬ pd=p:=fun e=>hpp e.symm
   clear C b0 b1 b2 b3 dd lv nn hp5 ho5 s6 b6 p6 e6 hpn
   go_wp2_with fail
   (try rw[hw6])
   go_meet
   case rel=>exact⟨rfl,m5,a5,n5,c5,la5,dn5,pa5,pc5,S6.out,B6.out,P6.out,(fun g hg=>(O6.out g hg).imp id (fun h=>h.1)),E6.out,H6.out⟩
  ·have HPS:Hid (ps=[]):=zH (by
    have h:=HTB.out
    rw[←HNP.out]at h
    exact List.eq_nil_of_length_eq_zero (by simpa using h))
   have h4:=HQ4.out
   have h5:=HL4.out
   rw[if_pos HPS.out]at h4 h5
   have C:=dCreate_ok RZ.out HZ.out size
   rw[h4]at C
   simp only at C
   rw[h5]at C
   have C:=zH C
   clear h4 h5
   obtain⟨b0,b1,b2,b3,-⟩:=box_cells S3.out.bd
   go_wp2_with fail
   refine C.out.mono ?_
   rintro z w5 ⟨m5,a5,n5,c5,la5,dn5,pa5,pc5,rfl,dd,lv,nn,hpn⟩
   obtain⟨hp5,ho5⟩:=lv.at_
   obtain⟨w6,hw6,s6,b6,p6,e6⟩:=S3.out.made (L:=L4) ⟨_,_,_,_,_,_,BA.out⟩ HPK.out dd hp5 ho5 nn E3.out (fun g hg=>⟨(FE.out g hg).1,by have:=(FE.out g hg).2;omega⟩)
   have S6:=zH s6
   have B6:=zH b6
   have P6:=zH p6
   have E6:=zH e6
   have O6:=zH ho5
   have H6:=zH hpn
   obtain⟨y0,y1,y2,y3,g0,g1,g2,g3⟩:=box_cells (S3.out.on nn).bd
   obtain⟨⟨z0,z1,z2,z3,z4,z5⟩,t0,t1,t2,t3,t4,t5⟩:=lb_cells (nn.at_ BA.out)
   have hbl:=lt_of_block (S3.out.on nn).bd
   have hbl2:=lt_of_block (nn.at_ BA.out)
   have hpp:¬ p=pd:=by have:=HPK.out;have h2:=S3.out.hi;omega
   have hpp2:¬ pd=p:=fun e=>hpp e.symm
   clear C b0 b1 b2 b3 dd lv nn hp5 ho5 s6 b6 p6 e6 hpn
   go_wp2_with fail
   (try rw[hw6])
   go_meet
   case rel=>exact⟨rfl,m5,a5,n5,c5,la5,dn5,pa5,pc5,S6.out,B6.out,P6.out,(fun g hg=>(O6.out g hg).imp id (fun h=>h.1)),E6.out,H6.out⟩
 case rest =>
  obtain⟨rfl,m5,a5,n5,c5,la5,dn5,pa5,pc5,s5,b5,p5,o5,e5,h5⟩:=hcut
  have S5:=zH s5
  have B5:=zH b5
  have P5:=zH p5
  have O5:=zH o5
  have E5:=zH e5
  have H5:=zH h5
  clear s5 b5 p5 o5 e5 h5 HQ4 HL4 HTB S3 E3 P3 BA RZ
  by_cases h6:x4=0
  case neg =>
   have q1:(x4 !=0)=true:=by simpa using h6
   have HX6:=zH h6
   clear h6
   clear H5 B5 P5 O5 E5
   have HE:Hid (R.d=d4∧R.es=[]∧R.e=x4):=zH (⟨HR5.out.1,HR5.out.2.2.1 HX6.out,HR5.out.2.1⟩)
   have HIF:Hid (LR=noLg):=zH (by rw[←HLR.out,HE.out.2.2];exact if_neg (by first|exact HX6.out|simp))
   obtain⟨⟨b0,b1,b2,b3⟩,⟨u0,u1,u2,u3,r0,r1,r2,r3,f0,f1,f2,f3⟩,⟨v0,v1,v2,v3,v4,v5,⟨s0,s1,s2,s3,s4,s5⟩,g0,g1,g2,g3,g4,g5⟩,e1,e2,e3⟩:=S5.out.told
   go_wp2
   obtain⟨w9,hw9,D9,V9,N9,BD9,BL9⟩:=S5.out.fin0 HX.out
   rw[hw9]
   obtain⟨e0,e1,e2,e3,-⟩:=box_cells BD9
   obtain⟨⟨j0,j1,j2,j3,j4,j5⟩,-⟩:=lb_cells BL9
   refine bodyPost_ret (v:=.tuple #[.agg #[.int .i64 m5,.slice a5 n5 c5,.int .i64 la5,.bool dn5],.agg #[.int .i64 0,.slice none 0 0,.int .i64 0,.int .i64 0,.int .i64 0,.bool false],.slice none 0 0,.int .i64 x4]) (by simp[results,Tryz.results18,go_sem,e0,e1,e2,e3,j0,j1,j2,j3,j4,j5]) rfl ?_
   rw[HIF.out]
   obtain⟨E1,E2,E3⟩:=HE.out
   refine⟨m5,a5,n5,c5,la5,dn5,none,0,_,by rw[E3];rfl,by rw[E1];exact D9,V9,by rw[E2];exact OwnE.nil N9,.inr rfl⟩
  subst h6
  have HE:Hid (R.d=d4∧R.es=es∧R.e=0∧LR=L4):=zH ⟨HR5.out.1,HR5.out.2.2.2.1 rfl,HR5.out.2.1,HR5.out.2.2.2.2⟩
  obtain⟨⟨z0,z1,z2,z3,z4,z5⟩,-⟩:=lb_cells B5.out
  have hpp:¬ p=pd∧¬ p=rd∧¬ p=rl:=by have:=HPK.out;have h2:=S5.out.hi;omega
  obtain⟨hp1,hp2,hp3⟩:=hpp
  obtain⟨⟨b0,b1,b2,b3⟩,⟨u0,u1,u2,u3,r0,r1,r2,r3,f0,f1,f2,f3⟩,⟨v0,v1,v2,v3,v4,v5,⟨s0,s1,s2,s3,s4,s5⟩,g0,g1,g2,g3,g4,g5⟩,e1,e2,e3⟩:=S5.out.told
  go_upto_region 12 with fail
  go_region_with fail
  all_goals
   go_wp2
   obtain⟨w9,hw9,D9,V9,N9,BD9,BL9,EV9⟩:=S5.out.finE HX.out P5.out O5.out E5.out (fun g hg=>(FE.out g hg).1)
   rw[hw9]
   have ND:=(Nw.refl w9).drew
   obtain⟨e0,e1,e2,e3,-⟩:=box_cells BD9
   obtain⟨⟨j0,j1,j2,j3,j4,j5⟩,-⟩:=lb_cells BL9
   obtain⟨k0,k1,k2,k3,-⟩:=box_cells (ND.at_ BD9)
   obtain⟨⟨i0,i1,i2,i3,i4,i5⟩,-⟩:=lb_cells (ND.at_ BL9)
   refine bodyPost_ret (v:=.tuple #[.agg #[.int .i64 m5,.slice a5 n5 c5,.int .i64 la5,.bool dn5],.agg #[.int .i64 L4.size,.slice pa5 L4.l.length pc5,.int .i64 L4.n,.int .i64 L4.acked,.int .i64 L4.bytes,.bool L4.over],.slice ea ne ec,.int .i64 0]) (by simp[results,Tryz.results18,go_sem,k0,k1,k2,k3,i0,i1,i2,i3,i4,i5]) rfl ?_
   obtain⟨E1,E2,E3,E4⟩:=HE.out
   have hfe:∀g,(Value.slice ea ne ec).ownBlock=some g→w.heap.size≤g:=fun g hg=>by have h1:=(FE.out g hg).1;have h2:=S5.out.lo;have h3:=S5.out.hi;omega
   rw[E4]
   first
    |exact⟨m5,a5,n5,c5,la5,dn5,pa5,pc5,_,by rw[E3],by rw[E1];exact D9,V9,by rw[E2];exact⟨by rw[HNE.out];exact EV9,N9,hfe⟩,H5.out⟩
    |exact⟨m5,a5,n5,c5,la5,dn5,pa5,pc5,_,by rw[E3],by rw[E1];exact D9.nw ND,V9.nw ND,by rw[E2];exact⟨by rw[HNE.out];exact EV9.nw ND,N9.trans ND,hfe⟩,H5.out⟩
end Go.Proofs.YtkbenkldfehhlaaGreatDoor
namespace Go.Proofs.YtkbenkldfehhlaaGreatDoor
open Go
def evA (n:Int):Ev:=⟨0,0,0,n,0⟩
theorem intB2:intB 2=[4]:=by unfold intB zig;rw[if_pos (by omega),uintB_small (by omega)];rfl
theorem intB3:intB 3=[6]:=by unfold intB zig;rw[if_pos (by omega),uintB_small (by omega)];rfl
theorem frmA {n:Int}(h:n=1∨n=2∨n=3):(frmB [evA n]).length=11:=by
 have w2:w64 2=2:=by decide
 have w3:w64 3=3:=by decide
 rcases h with rfl|rfl|rfl
 ·exact frm_of (by simp[putE,evA,Ev.zero,w64_0,w64_1,intB0,intB1])
 ·exact frm_of (by simp[putE,evA,Ev.zero,w64_0,w2,intB0,intB2])
 ·exact frm_of (by simp[putE,evA,Ev.zero,w64_0,w3,intB0,intB3])
theorem evA_ok {n:Int}(h:in64 n):(evA n).Ok:=⟨by unfold in64 evA;simp,by unfold in64 evA;simp,h,by unfold in64 evA;simp⟩
def f2 (a b:DFile):List (Str×DFile):=[(segName 0,a),(manifestS,b)]
def manF:DFile:=⟨manifestB [pc0],(manifestB [pc0]).length⟩
theorem seg_man:¬ segName 0=manifestS:=by rw[seg0_eq];decide
theorem f2_set (a b c:DFile):setF (f2 a b) (segName 0) c=f2 c b:=by simp[f2,setF]
theorem f2_setM (a b c:DFile):setF (f2 a b) manifestS c=f2 a c:=by simp[f2,setF,seg_man]
theorem f2_file (a b:DFile):fileOf (f2 a b) (segName 0)=a:=by simp[f2,fileOf,getF]
theorem f2_man (a b:DFile):fileOf (f2 a b) manifestS=b:=by simp[f2,fileOf,getF,seg_man]
theorem right0:RightP [] pc0:=⟨by simp,rfl,segName_ok (by decide),by simp,rfl,rfl,rfl⟩
theorem man_len:(manifestB [pc0]).length≤71:=by
 have:=manifestB_le (l:=[pc0]) ((rightL_iff [] _).2 right0)
 simpa using this
structure Sx (d:Dsk) (L:Lg) (fs:List (List Ev)) (m:Nat):Prop where
 inv:LInv d L [] pc0
 most:d.most=1000
 files:d.files=f2 ⟨segB 0 fs,(segB 0 (fs.take m)).length⟩ manF
 bytes:L.bytes=9+11*fs.length
 n:L.n=fs.length
 len:(segB 0 fs).length=9+11*fs.length
 size:L.size=64
theorem Sx.new:∃d,createD (newDsk 1000) 64=(d,0)∧Sx d (newLg 64) [] 0:=by
 obtain⟨F,h1,h2,h3,h4⟩:=create_calm' 1000 (by omega) (size:=64) (by omega) (by omega)
 exact⟨_,h1,⟨h2,rfl,by rw[h4];simp[f2,segB,manF,newLg,pc0],by simp[newLg,head0],rfl,by simp[segB,head0],rfl⟩⟩
section
variable {d:Dsk}{L:Lg}{fs:List (List Ev)}{m:Nat}
theorem Sx.used (h:Sx d L fs m):usedF d.files≤80+11*fs.length:=by
 have:=man_len
 have h2:=h.len
 rw[h.files]
 simp[usedF,f2,manF]
 omega
theorem Sx.add (h:Sx d L fs m) (hm:m≤fs.length) (hk:fs.length<5){e:Ev}(he:(frmB [e]).length=11):∃d' L',L.add d [e]=⟨d',L',0⟩∧Sx d' L' (fs++[[e]]) m:=by
 have hu:=h.used
 obtain⟨p1,p2,p3⟩:=put_calm h.inv [e] (by rw[he,h.most];omega)
 refine⟨_,_,(add_stay h.inv (by simp) (by simp) (fun hc=>?_)).trans p1,p2,h.most,?_,?_,?_,?_,h.size⟩
 ·have h1:=h.bytes
  have h2:=h.size
  omega
 ·simp only
  rw[h.files,show pc0.name=segName 0 from rfl,f2_file,f2_set]
  simp only
  rw[List.take_append_of_le_length hm]
  simp[segB]
 ·simp only;rw[h.bytes,he,List.length_append];simp;omega
 ·simp[h.n]
 ·rw[show segB 0 (fs++[[e]])=segB 0 fs++frmB [e] by simp[segB],List.length_append,h.len,he,List.length_append];simp;omega
theorem Sx.sync (h:Sx d L fs m):∃d' L',L.sync d=⟨d',L',0⟩∧Sx d' L' fs fs.length:=by
 obtain⟨p1,p2,p3⟩:=lsync_calm h.inv
 refine⟨_,_,p1,p2,h.most,?_,h.bytes,h.n,h.len,h.size⟩
 simp only
 rw[h.files,show pc0.name=segName 0 from rfl,f2_file,f2_set,List.take_length]
theorem Sx.list (h:Sx d L fs m):d.list=[manifestS,[115,48]]:=by
 rw[list_eq,h.files]
 simp only[namesF,f2,List.map_cons,List.map_nil,seg0_eq]
 decide
end
def xF (e1 e2 e3:Ev):List (Str×DFile):=f2 ⟨segB 0 [[e1],[e2]]++(frmB [e3]).take 10,41⟩ manF++[([120],⟨[],0⟩)]
theorem f2_leaves {a:DFile}{b:DFile}{j k:Int}:crashF [manifestS,segName 0] [j,k] (f2 a b)=f2 (leaves a k) (leaves b j):=by
 simp[crashF,f2_setM,f2_set,f2_file,f2_man]
section
variable {d:Dsk}{L:Lg}{e1 e2 e3:Ev}
theorem Sx.crash (h:Sx d L [[e1],[e2],[e3]] 2) (h3:(frmB [e3]).length=11):(d.crash [0,10]).files=f2 ⟨segB 0 [[e1],[e2]]++(frmB [e3]).take 10,41⟩ manF∧(segB 0 [[e1],[e2]]).length=31:=by
 have hl:=h.len
 have hs:segB 0 [[e1],[e2],[e3]]=segB 0 [[e1],[e2]]++frmB [e3]:=by simp[segB]
 have h31:(segB 0 [[e1],[e2]]).length=31:=by rw[hs,List.length_append,h3]at hl;simp at hl;omega
 refine⟨?_,h31⟩
 unfold Dsk.crash
 simp only
 rw[h.list,h.files,←seg0_eq,f2_leaves]
 have l1:leaves ⟨segB 0 [[e1],[e2],[e3]],(segB 0 ([[e1],[e2],[e3]].take 2)).length⟩ 10=⟨segB 0 [[e1],[e2]]++(frmB [e3]).take 10,41⟩:=by
  unfold leaves
  rw[show ([[e1],[e2],[e3]]:List (List Ev)).take 2=[[e1],[e2]] from rfl]
  simp only
  rw[hs,h31,List.length_append,h31,h3]
  simp only[show 31+min (10:Int).toNat (31+11-31)=31+10 from rfl]
  rw[←h31,List.take_length_add_append,h31]
 rw[l1]
 congr 1
 exact leaves_self _ rfl
end
section
variable {U:List UInt8→Int×List Ev×Int}{d:Dsk}{e1 e2 e3:Ev}
theorem x_tin (h:d.files=xF e1 e2 e3) (h31:(segB 0 [[e1],[e2]]).length=31) (h3:(frmB [e3]).length=11) (o1:e1.Ok) (o2:e2.Ok) (o3:e3.Ok):TIn (WholeU U) d.files [pc0] [] pc0 [] [[e1],[e2]] ((frmB [e3]).take 10) 2:=by
 have hx:¬ segName 0=[120]:=by rw[seg0_eq];decide
 have hy:¬ manifestS=[120]:=by decide
 rw[h]
 refine⟨?_,rfl,right0,?_,rfl,⟨41,?_,?_⟩,by simp,?_,?_,rfl,?_,rfl⟩
 ·simp[xF,f2,namesF,seg_man,hx,hy]
 ·simp[xF,f2,fileOf,getF,seg_man,manF]
 ·simp[xF,f2,fileOf,getF,pc0]
 ·rw[show ([[e1],[e2]]:List (List Ev)).take 2=[[e1],[e2]] from rfl,show pc0.first.toNat=0 from rfl,h31];omega
 ·intro f hf
  simp only[List.mem_cons,List.not_mem_nil,or_false]at hf
  rcases hf with rfl|rfl
  ·exact⟨by simp,by simp,fun e he=>by rw[List.mem_singleton]at he;subst he;exact o1⟩
  ·exact⟨by simp,by simp,fun e he=>by rw[List.mem_singleton]at he;subst he;exact o2⟩
 ·exact .inr ⟨[e3],10,⟨by simp,by simp,fun e he=>by rw[List.mem_singleton]at he;subst he;exact o3⟩,by rw[h3];omega,rfl⟩
 ·intro k hk hm
  simp only[List.map_cons,List.map_nil,List.mem_singleton]at hm
  have:=segName_inj hm
  subst this
  exact absurd hk (by decide)
theorem x_mend (hc:Calm d) (h:d.files=xF e1 e2 e3) (h31:(segB 0 [[e1],[e2]]).length=31) (h3:(frmB [e3]).length=11) (o1:e1.Ok) (o2:e2.Ok) (o3:e3.Ok) :
  scanD U d=⟨[e1,e2],[pc0],31,0⟩∧mendD U d=⟨{ d with files:=f2 ⟨segB 0 [[e1],[e2]],31⟩ manF },[e1,e2],[pc0],0⟩:=by
 have hx:¬ segName 0=[120]:=by rw[seg0_eq];decide
 have hy:¬ manifestS=[120]:=by decide
 have hs:scanD U d=⟨[e1,e2],[pc0],31,0⟩:=by
  rw[(x_tin h h31 h3 o1 o2 o3).scan hc.up,show pc0.first.toNat=0 from rfl,h31]
  simp
 refine⟨hs,?_⟩
 have h10:((frmB [e3]).take 10).length=10:=by rw[List.length_take,h3];rfl
 have hf:fileOf d.files (segName 0)=⟨segB 0 [[e1],[e2]]++(frmB [e3]).take 10,41⟩:=by rw[h];simp[xF,f2,fileOf,getF]
 have hg:getF d.files (segName 0)=some ⟨segB 0 [[e1],[e2]]++(frmB [e3]).take 10,41⟩:=by rw[h];simp[xF,f2,getF]
 have hset:setF d.files (segName 0) ⟨segB 0 [[e1],[e2]],31⟩=f2 ⟨segB 0 [[e1],[e2]],31⟩ manF++[([120],⟨[],0⟩)]:=by rw[h];simp[xF,f2,setF]
 have hcut:cutD d [pc0] 31=({ d with files:=f2 ⟨segB 0 [[e1],[e2]],31⟩ manF++[([120],⟨[],0⟩)] },0):=by
  unfold cutD
  rw[show (lastP [pc0]).name=segName 0 from rfl,hf]
  simp only
  rw[if_pos ⟨by simp,by rw[List.length_append,h31,h10];omega⟩]
  unfold Dsk.cut Dsk.mayCut
  rw[hg]
  simp only
  rw[if_neg (by rw[List.length_append,h31,h10];omega),op_calm hc,hf]
  simp only
  rw[show (31:Int).toNat=31 from rfl,List.take_append_of_le_length (by omega),List.take_of_length_le (by omega),hset]
 have hc2:Calm { d with files:=f2 ⟨segB 0 [[e1],[e2]],31⟩ manF++[([120],(⟨[],0⟩:DFile))] }:=hc.same _ (by simp[f2,namesF,seg_man,hx,hy])
 have hl:({ d with files:=f2 ⟨segB 0 [[e1],[e2]],31⟩ manF++[([120],(⟨[],0⟩:DFile))] }:Dsk).list=[manifestS,segName 0,[120]]:=by
  rw[list_eq]
  simp only[namesF,f2,List.map_cons,List.map_nil,List.cons_append,List.nil_append,seg0_eq]
  decide
 have hrem:({ d with files:=f2 ⟨segB 0 [[e1],[e2]],31⟩ manF++[([120],(⟨[],0⟩:DFile))] }:Dsk).remove [120]=({ d with files:=f2 ⟨segB 0 [[e1],[e2]],31⟩ manF },0):=by
  rw[remove_calm hc2 (by simp[f2,namesF])]
  simp[f2,delF,hx,hy]
 unfold mendD mendWith
 rw[hs]
 simp only
 rw[hcut]
 simp only
 rw[if_neg (by simp),if_neg (by simp),hl]
 have hst:staysOf [pc0]=[manifestS,segName 0]:=rfl
 rw[hst]
 have hrm:rmAll [manifestS,segName 0] [manifestS,segName 0,[120]] ({ d with files:=f2 ⟨segB 0 [[e1],[e2]],31⟩ manF++[([120],(⟨[],0⟩:DFile))] }:Dsk)=({ d with files:=f2 ⟨segB 0 [[e1],[e2]],31⟩ manF },0):=by
  unfold rmAll
  rw[if_pos (by simp)]
  unfold rmAll
  rw[if_pos (by simp)]
  unfold rmAll
  rw[if_neg (by simp only[List.mem_cons,List.not_mem_nil,or_false,not_or];exact⟨Ne.symm hy,Ne.symm hx⟩),hrem,if_neg (by simp)]
  rfl
 rw[hrm]
 simp
end
theorem bad_scan {U:List UInt8→Int×List Ev×Int}:∃d,(newDsk 100).append manifestS [119,104,97,116]=(d,0)∧scanD U d=⟨[],[],0,14⟩∧(listedB (d.read manifestS).1).1=[]:=by
 have hc:Calm (newDsk 100):=⟨rfl,rfl,by simp[newDsk,namesF]⟩
 refine⟨_,append_calm hc (by decide) (by simp[newDsk,usedF]) (by simp[newDsk]),?_⟩
 have hr:({ newDsk 100 with files:=setF (newDsk 100).files manifestS ⟨(fileOf (newDsk 100).files manifestS).bytes++[119,104,97,116],(fileOf (newDsk 100).files manifestS).synced⟩ }:Dsk).read manifestS=([119,104,97,116],0):=by rfl
 have hl:(listedB [119,104,97,116]).2=12:=by rfl
 have hl1:(listedB [119,104,97,116]).1=[]:=by rfl
 refine⟨?_,by rw[hr];exact hl1⟩
 unfold scanD
 rw[hr]
 simp only
 rw[hl]
 simp
open Go.RowKit Go.Sort
set_option maxRecDepth 100000
set_option maxHeartbeats 1600000
section
variable {X:Nat→Prop}{w0 w1 w:World}{b:Nat}{d:Dsk}
end
theorem den_new (m:Int):DenFor (fun _=>(0,[],0)) (newDsk m):=.inr (fun q hq=>by
 have:((newDsk m).read manifestS).1=[]:=rfl
 rw[this]at hq
 cases hq)
section
variable {X:Nat→Prop}{w0 w w':World}{p b:Nat}{d d':Dsk}{L:Lg}{fs:List (List Ev)}{m:Nat}
theorem Sx.call (h:HasL X w0 w p b d L) (hs:Sx d L fs m) (hk:fs.length≤5) (ht:Tab w0){v:Value}{es:List Ev}(hv:Evs w v es) :
  Calls Tryz.prog 28 #[.pointer (some ⟨p,0,none⟩),v] w (DidL X w0 w p b (L.add d es).d (L.add d es).L (.int .i64 (L.add d es).e)):=by
 have hl:L.l=[pc0]:=hs.inv.l
 refine LAppend_ok h ht ⟨by rw[hs.n];omega,by rw[hs.bytes];omega⟩ (by rw[hl];decide) (by rw[hl];decide) (by rw[hs.size];unfold in64;omega) hv h.pok
theorem den_pc0 {U:List UInt8→Int×List Ev×Int}{s:ScanR}(hs:scanD U d=s) (h0:s.e=0) (hp:∀q∈s.ps,q.dense=false) (hm:(d.read manifestS).2=0):DenFor U d:=by
 refine .inr ?_
 subst hs
 unfold scanD at h0 hp
 rw[if_neg (by rw[hm];decide),if_neg (by rw[hm];simp)]at h0 hp
 split at h0
 ·simp at h0
 ·rename_i h1
  rw[if_neg h1]at hp
  split at h0
  ·rename_i h2;exact absurd h0 h2
  ·rename_i h2
   rw[if_neg h2]at hp
   exact hp
end
theorem ev_lit2 (w:World) (e f:Ev) (he:e.Ok) (hf:f.Ok):Evs (w.alloc (.cells ((evV e++evV f)).toArray 87 (0,0))) (.slice (some ⟨w.heap.size,0,none⟩) 2 2) [e,f]:=
 ⟨by have:=src_lit w 87 (0,0) 5 2 2 (evV e++evV f) rfl (by omega) (by decide);simpa using this,fun x hx=>by simp only[List.mem_cons,List.not_mem_nil,or_false]at hx;rcases hx with rfl|rfl;exact he;exact hf⟩
theorem Evs.kept {Y:Nat→Prop}{w w':World}{v:Value}{l:List Ev}(h:Evs w v l) (hk:Kept Y w w') (hy:∀g,v.ownBlock=some g→Y g):Evs w' v l:=by
 refine⟨?_,h.ok⟩
 obtain⟨e,⟨a,hv,hn⟩|⟨g,o,cap,hv,h1,h2,h3,h4⟩⟩:=h.src
 ·exact⟨e,.inl ⟨a,hv,hn⟩⟩
 ·subst hv
  exact⟨e,.inr ⟨g,o,cap,rfl,h1,h2,Nat.lt_of_lt_of_le h3 hk.1,fun j hj=>hk.cell (h4 j hj) (hy g rfl)⟩⟩
theorem in64_123 {n:Int}(h:n=1∨n=2∨n=3):(evA n).Ok:=evA_ok (by unfold in64;omega)
theorem awake6_ok (w:World) (ht:Tab w):Calls Tryz.prog 6 #[] w fun e w'=>e=.returned (.bool true)∧Nw w w':=by
 have HT:=zH ht
 clear ht
 obtain⟨d0,cr0,st0⟩:=Sx.new
 have HOP:Hid (openD (fun _=>(0,[],0)) (newDsk 1000) 64=⟨d0,newLg 64,[],0⟩):=zH (open_new (by omega) (by omega) cr0)
 have ST0:=zH st0
 clear cr0 st0
 go_enter Tryz.func6,Tryz.ntmps6
 go_wp2_with fail
 refine (HasX.new 1000 w (by omega) (by omega)).mono ?_
 rintro e w1 ⟨b,rfl,H1⟩
 have H1:=zH H1
 go_wp2_with fail
 refine (Scan_ok H1.out (den_new 1000) (scan_new 1000)).mono ?_
 rintro e w2 ⟨v2,p2,rfl,o1,o2⟩
 obtain⟨va,vc,rfl,-⟩:=o1.1.len
 obtain⟨pa,pc,rfl,-⟩:=o2.1.len
 have H2:=zH (H1.out.nw o1.2.1)
 simp only[List.length_nil]
 have C:=Open_ok H2.out HT.out (den_new 1000) 64
 rw[HOP.out]at C
 have C:=zH C
 clear o1 o2 H1 HOP
 go_wp2_with fail
 refine C.out.mono ?_
 rintro e w3 ⟨k3,⟨-,p,v3,rfl,hl3,V3,-⟩|⟨hx,-⟩⟩
 case inr=>exact absurd rfl hx
 obtain⟨ea,ec,rfl,-⟩:=V3.len
 have L3:=zH (hl3.less (Y:=fun _=>False) fun k hk=>hk.elim)
 clear C H2 k3 V3 hl3
 go_wp2_with fail
 have E6:=ev_lit w3 (evA 1) (in64_123 (.inl rfl)) 1 (by omega) (by decide)
 have L6:=zH (L3.out.nw ((Nw.refl w3).alloc (.cells (evV (evA 1)).toArray 87 (0,0))))
 obtain⟨d1,K1,ad1,st1⟩:=ST0.out.add (by simp) (by simp) (frmA (n:=1) (.inl rfl))
 have C6:=Sx.call L6.out ST0.out (by simp) HT.out E6
 rw[ad1]at C6
 refine C6.mono ?_
 rintro e w7 ⟨rfl,L7,-⟩
 have L7:=zH L7
 have ST1:=zH st1
 clear E6 L6 ad1 st1 C6 ST0 L3
 go_wp2_with fail
 have E8:=ev_lit w7 (evA 2) (in64_123 (.inr (.inl rfl))) 1 (by omega) (by decide)
 have L8:=zH (L7.out.nw ((Nw.refl w7).alloc (.cells (evV (evA 2)).toArray 87 (0,0))))
 obtain⟨d2,K2,ad2,st2⟩:=ST1.out.add (by simp) (by simp) (frmA (n:=2) (.inr (.inl rfl)))
 have C8:=Sx.call L8.out ST1.out (by simp) HT.out E8
 rw[ad2]at C8
 refine C8.mono ?_
 rintro e w9 ⟨rfl,L9,-⟩
 have L9:=zH L9
 have ST2:=zH st2
 clear E8 L8 ad2 st2 C8 ST1 L7
 obtain⟨d3,K3,sy3,st3⟩:=ST2.out.sync
 have C10:=LSync_ok L9.out
 rw[sy3]at C10
 have C10:=zH C10
 have ST3:=zH st3
 clear sy3 st3
 go_wp2_with fail
 refine C10.out.mono ?_
 rintro e w11 ⟨rfl,L11,-⟩
 have L11:=zH L11
 clear C10 L9 ST2
 go_wp2_with fail
 have E12:=ev_lit w11 (evA 3) (in64_123 (.inr (.inr rfl))) 1 (by omega) (by decide)
 have L12:=zH (L11.out.nw ((Nw.refl w11).alloc (.cells (evV (evA 3)).toArray 87 (0,0))))
 obtain⟨d4,K4,ad4,st4⟩:=ST3.out.add (by simp) (by simp) (frmA (n:=3) (.inr (.inr rfl)))
 have C12:=Sx.call L12.out ST3.out (by simp) HT.out E12
 rw[ad4]at C12
 refine C12.mono ?_
 rintro e w13 ⟨rfl,L13,-⟩
 have H13:=zH L13.has
 have ST4:=zH st4
 clear E12 L12 ad4 st4 C12 ST3 L11 L13
 have R14:Rd i64v (w13.alloc (.cells #[.int .i64 0,.int .i64 10] 3)) (.slice (some ⟨w13.heap.size,0,none⟩) 2 2) [0,10]:=rd_lit (f:=i64v) w13 3 (0,0) [0,10] _ 2 rfl (by decide) (by decide)
 have C14:=zH (((H13.out).alloc (.cells #[.int .i64 0,.int .i64 10] 3)).crash (d':=d4.crash [0,10]) _ [0,10] R14 (fun _ g hg=>.inl (.inr (by cases hg;rfl))) rfl)
 obtain⟨cf,h31⟩:=Sx.crash (e1:=evA 1) (e2:=evA 2) (e3:=evA 3) (by simpa using ST4.out) (frmA (n:=3) (.inr (.inr rfl)))
 obtain⟨d5,hd5⟩:=zN (d4.crash [0,10])
 rw[hd5]at C14 cf
 have hc5:Calm d5:=by rw[←hd5];exact crash_calm ST4.out.inv.calm.names _
 have hm5:d5.most=1000:=by rw[←hd5];exact ST4.out.most
 have CF:=zH (And.intro cf (And.intro h31 (And.intro hc5 hm5)))
 clear R14 cf h31 hd5 hc5 hm5
 go_wp2_with fail
 refine C14.out.mono ?_
 rintro e w15 ⟨rfl,H15,-⟩
 have H15:=zH H15
 clear C14 H13 ST4
 have hx:¬ segName 0=[120]:=by rw[seg0_eq];decide
 have hy:¬ manifestS=[120]:=by decide
 have hap:d5.append [120] []=({ d5 with files:=xF (evA 1) (evA 2) (evA 3) },0):=by
  have hu:=man_len
  have h41:(segB 0 [[evA 1],[evA 2]]++(frmB [evA 3]).take 10).length≤41:=by rw[List.length_append,CF.out.2.1,List.length_take];omega
  rw[append_calm CF.out.2.2.1 (by decide) (by
   rw[CF.out.2.2.2,CF.out.1]
   simp only[usedF,f2,manF,List.map_cons,List.map_nil,List.sum_cons,List.sum_nil,List.length_nil]
   omega) (.inr (by rw[CF.out.1];simp[f2]))]
  rw[CF.out.1]
  simp[f2,xF,setF,fileOf,getF,hx,hy]
 obtain⟨d6,hd6⟩:∃x:Dsk,({ d5 with files:=xF (evA 1) (evA 2) (evA 3) }:Dsk)=x:=⟨_,rfl⟩
 rw[hd6]at hap
 have hf6:d6.files=xF (evA 1) (evA 2) (evA 3):=by rw[←hd6]
 have hc6:Calm d6:=by
  rw[←hd6]
  exact CF.out.2.2.1.same _ (by simp[xF,f2,namesF,seg_man,hx,hy])
 have C16:=zH (H15.out.append [120] [] (.slice none 0 0) (.inl ⟨none,rfl,rfl⟩) (fun h=>absurd rfl h) (by decide) (by decide) hap)
 obtain⟨sc6,me6⟩:=x_mend (U:=fun _=>(0,[],0)) hc6 hf6 CF.out.2.1 (frmA (n:=3) (.inr (.inr rfl))) (in64_123 (.inl rfl)) (in64_123 (.inr (.inl rfl))) (in64_123 (.inr (.inr rfl)))
 have hr6:(d6.read manifestS).2=0:=by
  have:=read_of (d:=d6) hc6.up (n:=manifestS) (b:=manifestB [pc0]) (by rw[hf6];simp[xF,f2,fileOf,getF,seg_man,manF]) (manifestB_ne _)
  rw[this]
 have DN:=zH (den_pc0 sc6 rfl (fun q hq=>by rw[List.mem_singleton]at hq;subst hq;rfl) hr6)
 have hs6:(fileOf d6.files [115,48]).bytes.length=41:=by
  rw[hf6,←seg0_eq]
  simp only[xF,f2,fileOf,getF,List.cons_append,if_pos,Option.getD_some]
  rw[List.length_append,CF.out.2.1,List.length_take,frmA (n:=3) (.inr (.inr rfl))]
  rfl
 have SC6:=zH sc6
 have ME6:=zH me6
 have HS6:=zH hs6
 have HC6:=zH hc6
 have H31:=zH CF.out.2.1
 clear hx hy hap hd6 hf6 hc6 sc6 me6 hr6 hs6 CF
 go_wp2_with fail
 refine C16.out.mono ?_
 rintro e w17 ⟨rfl,H17,-⟩
 have H17:=zH H17
 clear C16 H15
 go_wp2_with fail
 refine (Scan_ok H17.out DN.out SC6.out).mono ?_
 rintro e w18 ⟨v18,p18,rfl,o1,o2⟩
 obtain⟨xa,xc,rfl,-⟩:=o1.1.len
 obtain⟨ya,yc,rfl,-⟩:=o2.1.len
 obtain⟨Y,hY⟩:∃Y:Nat→Prop,Y=fun k=>(Value.slice xa [evA 1,evA 2].length xc).ownBlock=some k:=⟨_,rfl⟩
 have H18:Hid (HasX Y w w18 b d6):=zH (H17.out.nwY o1.2.1 fun k hk=>by rw[hY]at hk;exact .inr ⟨o1.2.2 k hk,o1.1.lt k hk⟩)
 have HY:Hid (∀g,(Value.slice xa [evA 1,evA 2].length xc).ownBlock=some g→Y g):=zH (by rw[hY];exact fun g h=>h)
 have EOK:Hid (∀e∈[evA 1,evA 2],e.Ok):=zH (fun e he=>by simp only[List.mem_cons,List.not_mem_nil,or_false]at he;rcases he with rfl|rfl;exact in64_123 (.inl rfl);exact in64_123 (.inr (.inl rfl)))
 have A18:Hid (Evs w18 (.slice xa [evA 1,evA 2].length xc) [evA 1,evA 2]):=zH ⟨o1.1.src,EOK.out⟩
 have S18:=zH (H18.out.size [115,48] HS6.out)
 clear o1 o2 H17 hY
 go_wp2_with fail
 refine S18.out.mono ?_
 rintro e w19 ⟨rfl,n19⟩
 have H19:=zH (H18.out.nw n19)
 have A19:=zH (A18.out.nw n19)
 have M19:=zH (Mend_ok H19.out DN.out ME6.out)
 clear n19 H18 A18 S18
 go_wp2_with fail
 refine M19.out.mono ?_
 rintro e w20 ⟨v20,p20,rfl,t20⟩
 obtain⟨ma,mc,rfl,-⟩:=t20.evs.len
 obtain⟨na,nc,rfl,-⟩:=t20.pcs.len
 have H20:=zH t20.disk
 have A20:=zH (A19.out.kept t20.kept HY.out)
 have B20:Hid (Evs w20 (.slice ma [evA 1,evA 2].length mc) [evA 1,evA 2]):=zH ⟨t20.evs.src,EOK.out⟩
 obtain⟨d7,hd7⟩:∃x:Dsk,({ d6 with files:=f2 ⟨segB 0 [[evA 1],[evA 2]],31⟩ manF }:Dsk)=x:=⟨_,rfl⟩
 rw[hd7]at H20
 have hs7:(fileOf d7.files [115,48]).bytes.length=31:=by
  rw[←hd7,←seg0_eq]
  simp only
  rw[f2_file]
  exact H31.out
 have hl7:d7.list=[manifestS,[115,48]]:=by
  rw[list_eq,←hd7]
  simp only[namesF,f2,List.map_cons,List.map_nil,seg0_eq]
  decide
 have HS7:=zH hs7
 have HL7:=zH hl7
 clear t20 A19 H19 M19 hd7 hs7 hl7 HC6 ME6 SC6 DN HS6 H31
 have n21:=(Nw.refl w20).alloc (.cells ((evV (evA 1)++evV (evA 2))).toArray 87 (0,0))
 have W21:=zH (ev_lit2 w20 (evA 1) (evA 2) (in64_123 (.inl rfl)) (in64_123 (.inr (.inl rfl))))
 have A21:=zH (A20.out.nw n21)
 have B21:=zH (B20.out.nw n21)
 have H21:=zH (H20.out.nw n21)
 have SE21:=SameEvents_ok A21.out W21.out
 clear n21 A20 B20 H20
 go_wp2_with fail
 refine SE21.mono ?_
 rintro e w22 ⟨rfl,n22⟩
 have W22:=zH (W21.out.nw n22)
 have B22:=zH (B21.out.nw n22)
 have H22:=zH (H21.out.nw n22)
 clear n22 W21 B21 H21 SE21 A21
 go_wp2_with fail
 refine (SameEvents_ok B22.out W22.out).mono ?_
 rintro e w23 ⟨rfl,n23⟩
 have H23:=zH (H22.out.nw n23)
 clear n23 W22 B22 H22
 go_wp2_with fail
 refine (H23.out.size [115,48] HS7.out).mono ?_
 rintro e w24 ⟨rfl,n24⟩
 have H24:=zH (H23.out.nw n24)
 clear n24 H23
 go_wp2_with fail
 refine (H24.out.list HL7.out).mono ?_
 rintro e w25 ⟨v25,rfl,s25,n25,-⟩
 obtain⟨la,lc,rfl,-⟩:=s25.len
 have H25:=zH (H24.out.nw n25)
 have n26:=(Nw.refl w25).alloc (.cells #[.string ⟨#[109,97,110,105,102,101,115,116]⟩,.string ⟨#[115,48]⟩] 9 (0,0))
 have s26:Ss (w25.alloc (.cells #[.string ⟨#[109,97,110,105,102,101,115,116]⟩,.string ⟨#[115,48]⟩] 9 (0,0))) (.slice (some ⟨w25.heap.size,0,none⟩) 2 2) [manifestS,[115,48]]:=rd_lit (f:=encStr) w25 9 (0,0) [manifestS,[115,48]] _ 2 rfl (by decide) (by decide)
 have ST26:=zH (SameTexts_ok (s25.nw n26) s26)
 have N26:=zH n26
 clear n25 n26 s25 s26 H24
 go_wp2_with fail
 refine ST26.out.mono ?_
 rintro e w27 ⟨rfl,n27⟩
 have H27:=zH (H25.out.nw (N26.out.trans n27))
 have hsame:((([manifestS,[115,48]]:List Str)==[manifestS,[115,48]]):Bool)=true:=by decide
 rw[hsame]
 clear n27 H25 N26 ST26 hsame
 have N27:=zH H27.out.base
 clear H27
 obtain⟨d8,ap8,sc8,li8⟩:=bad_scan (U:=fun _=>(0,[],0))
 go_wp2_with fail
 refine (HasX.new 100 w27 (by omega) (by omega)).mono ?_
 rintro e w28 ⟨b2,rfl,H28⟩
 have H28:=zH H28
 have R29:Bs (w28.alloc (.cells #[.int .u8 119,.int .u8 104,.int .u8 97,.int .u8 116] 5 (4,5))) (.slice (some ⟨w28.heap.size,0,none⟩) 4 4) [119,104,97,116]:=rd_lit (f:=u8) w28 5 (4,5) [119,104,97,116] _ 4 rfl (by decide) (by decide)
 have C29:=zH ((H28.out.alloc (.cells #[.int .u8 119,.int .u8 104,.int .u8 97,.int .u8 116] 5 (4,5))).append manifestS [119,104,97,116] _ R29 (fun _ g hg=>.inl (.inr (by cases hg;rfl))) (by decide) (by decide) ap8)
 have SC8:=zH sc8
 have DN8:Hid (DenFor (fun _=>(0,[],0)) d8):=zH (.inr (fun q hq=>by rw[li8]at hq;cases hq))
 have kc:=fun (w:World) (C:Array Value) (n c:Nat)=>Go.Lib.run_convert_bytes_const (P:=Tryz.prog) w 79 5 C n c Tryz.underlying79 Tryz.underlying5
 clear R29 ap8 sc8 li8
 go_wp2_with fail
 refine C29.out.mono ?_
 rintro e w30 ⟨rfl,H30,-⟩
 have H30:=zH H30
 clear C29 H28
 go_wp2_with fail
 refine (Scan_ok H30.out DN8.out SC8.out).mono ?_
 rintro e w31 ⟨v31,p31,rfl,o1,o2⟩
 have N31:=zH (N27.out.trans (H30.out.base.trans o1.2.1))
 clear o1 o2 H30
 go_wp2
 go_ret
 exact⟨rfl,N31.out⟩
end Go.Proofs.YtkbenkldfehhlaaGreatDoor
