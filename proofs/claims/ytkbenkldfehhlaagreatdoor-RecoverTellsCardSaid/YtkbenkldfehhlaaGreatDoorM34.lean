/-
  Texts merged by a program of this claim's: DocScan6, DocD, DocI, DocS, DocT, DocU.
-/
import Derived.Test.YtkbenkldfehhlaaGreatDoorM33
import Derived.Test.YtkbenkldfehhlaaGreatDoorM28
import Derived.Test.YtkbenkldfehhlaaGreatDoorM16
import Derived.Test.YtkbenkldfehhlaaGreatDoorM6
import Derived.Test.YtkbenkldfehhlaaGreatDoorM23
import Derived.Lib.ItoaLen
namespace Go.Proofs.YtkbenkldfehhlaaGreatDoor
open Go Go.RowKit Go.Sort
set_option maxRecDepth 100000
set_option maxHeartbeats 3200000
theorem frs_place (b:List UInt8):∀(k:Nat) (at_:Int) (acc:List Ev),((b.length:Int)-at_).toNat=k→at_≤b.length→(frs b at_ acc).2≤b.length:=by
 intro k
 induction k using Nat.strongRecOn with
 |ind k ih =>
  intro at_ acc hk h1
  by_cases he:(readFr b at_).2.2=0
  ·have hf:=readFr_fine he
   rw[frs_yes he]
   exact ih _ (by omega) (readFr b at_).2.1 (acc++(readFr b at_).1) rfl hf.2.2.1
  ·rw[frs_no he]
   exact h1
theorem scanB_place (b:List UInt8):(scanB b).2.2.1≤b.length:=by
 unfold scanB
 split
 ·simp
 ·rename_i h
  have h0:(headR b).2.2=0:=by rcases Decidable.em ((headR b).2.2=0) with h1|h1;exact h1;exact absurd h1 h
  exact frs_place b _ _ _ rfl (headR_place h0).2
theorem read_most {d:Dsk}(ok:d.Ok) (n:Str):((d.read n).1.length:Int)≤d.most:=by
 unfold Dsk.read
 split
 ·simpa using ok.most0
 ·split
  ·simpa using ok.most0
  ·rename_i f hf
   have h1:f.bytes.length≤usedF d.files:=by
    have:=usedF_delF d.files n
    unfold fileOf at this
    rw[hf]at this
    simp only[Option.getD_some]at this
    omega
   have h2:=ok.used
   simp only
   omega
theorem piece_read {d:Dsk}{m:Str}(h:(d.read m).2=0) (n:Str):(d.read n).2=0∨(d.read n).2=13:=by
 unfold Dsk.read at h ⊢
 by_cases hd:d.down=true
 ·rw[if_pos hd]at h;exact absurd h (by simp)
 ·rw[if_neg hd]
  split
  ·exact .inr rfl
  ·exact .inl rfl
theorem dScan6_ok {X:Nat→Prop}{w:World}{v:Value}{d:Dsk}(h:RD X w v d) (hsm:d.most≤14000000){es:List Ev}{ps:List Pc}{good x:Int}(hr:scanD unpackB d=⟨es,ps,good,x⟩) :
  Calls Tryz.prog 9 #[v] w fun z w'=>∃v p,z=.returned (.tuple #[v,p,.int .i64 good,.int .i64 x])∧OwnE w w' v es∧OwnP w w' p ps:=by
 obtain⟨dm,da,dn,dc,dla,ddn,rfl⟩:=h.parts
 have n1:=(Nw.refl w).alloc (DB (.int .i64 dm) (.slice da dn dc) (.int .i64 dla) (.bool ddn))
 have b1:=heap_alloc_new w (DB (.int .i64 dm) (.slice da dn dc) (.int .i64 dla) (.bool ddn))
 obtain⟨w1,hw1⟩:=zN (w.alloc (DB (.int .i64 dm) (.slice da dn dc) (.int .i64 dla) (.bool ddn)))
 rw[hw1]at n1 b1
 unfold DB at hw1
 have hrm:=fun n=>read_most h.ok n
 have RDW:=zH (fun (W:World) (hW:Nw w1 W)=>h.nw (n1.trans hW))
 have N1:=zH n1
 have B1:=zH b1
 obtain⟨⟨mb,e1⟩,hm⟩:=zN (d.read manifestS)
 have hml:=hrm manifestS
 have HPR:=zH (fun hh n=>piece_read (d:=d) (m:=manifestS) hh n)
 unfold scanD at hr
 rw[hm]at hr hml HPR
 simp only at hr hml HPR
 have HM:=zH hm
 have HRM:=zH hrm
 clear h hm n1 b1 hrm
 obtain⟨q0,hq0⟩:=zN (w.heap.size)
 rw[hq0]at B1
 by_cases c13:e1=13
 ·subst c13
  rw[if_pos rfl]at hr
  obtain⟨rfl,rfl,rfl,rfl⟩:[]=es∧[]=ps∧0=good∧0=x:=by simpa using hr
  clear hr
  go_enter Tryz.func9,Tryz.ntmps9
  go_upto_region 1 with fail
  (try rw[hq0])
  clear hw1 hq0
  obtain⟨k0,k1,k2,k3,-⟩:=box_cells B1.out
  have CR:=zH ((RDW.out w1 (Nw.refl _)).read HM.out)
  go_wp2_with fail
  refine CR.out.mono ?_
  rintro z w2 ⟨ra,rc,rfl,b2,n2⟩
  have N2:=zH (N1.out.trans n2)
  clear b2 n2
  go_wp2
  refine bodyPost_ret (v:=.tuple #[.slice none 0 0,.slice none 0 0,.int .i64 0,.int .i64 0]) (by simp[results,Tryz.results9,go_sem]) rfl ⟨_,_,rfl,OwnE.nil N2.out,OwnP.nil N2.out⟩
 have q13:(e1==13)=false:=by simpa using c13
 rw[if_neg c13]at hr
 by_cases c1:e1=0
 case neg =>
  have q2:(e1 !=0)=true:=by simpa using c1
  rw[if_pos c1]at hr
  obtain⟨rfl,rfl,rfl,rfl⟩:[]=es∧[]=ps∧0=good∧e1=x:=by simpa using hr
  clear hr
  go_enter Tryz.func9,Tryz.ntmps9
  go_upto_region 1 with fail
  (try rw[hq0])
  clear hw1 hq0
  obtain⟨k0,k1,k2,k3,-⟩:=box_cells B1.out
  have CR:=zH ((RDW.out w1 (Nw.refl _)).read HM.out)
  go_wp2_with fail
  refine CR.out.mono ?_
  rintro z w2 ⟨ra,rc,rfl,b2,n2⟩
  have N2:=zH (N1.out.trans n2)
  clear b2 n2
  go_wp2
  refine bodyPost_ret (v:=.tuple #[.slice none 0 0,.slice none 0 0,.int .i64 0,.int .i64 e1]) (by simp[results,Tryz.results9,go_sem]) rfl ⟨_,_,rfl,OwnE.nil N2.out,OwnP.nil N2.out⟩
 subst c1
 rw[if_neg (by simp)]at hr
 have HPRN:Hid (∀n,(d.read n).2=0∨(d.read n).2=13):=zH (HPR.out (by first|rfl|trivial))
 clear HPR
 obtain⟨⟨pl,e2⟩,hp⟩:=zN (listedB mb)
 have hrt:=listedB_right (b:=mb)
 rw[hp]at hr hrt
 simp only at hr hrt
 have HP:=zH (fun (W:World) (v:Value) (hb:Bs W v mb)=>dListed_ok hb (by omega) hp)
 clear hp c13
 by_cases c2:e2=0
 case neg =>
  have q1:(e2 !=0)=true:=by simpa using c2
  rw[if_pos c2]at hr
  obtain⟨rfl,rfl,rfl,rfl⟩:[]=es∧[]=ps∧0=good∧14=x:=by simpa using hr
  clear hrt hr
  go_enter Tryz.func9,Tryz.ntmps9
  go_upto_region 1 with fail
  (try rw[hq0])
  clear hw1 hq0
  obtain⟨k0,k1,k2,k3,-⟩:=box_cells B1.out
  have CR:=zH ((RDW.out w1 (Nw.refl _)).read HM.out)
  go_wp2_with fail
  refine CR.out.mono ?_
  rintro z w2 ⟨ra,rc,rfl,b2,n2⟩
  have O1:=zH b2
  have N2:=zH (N1.out.trans n2)
  clear b2 n2
  go_wp2_with fail
  refine (HP.out w2 _ O1.out).mono ?_
  rintro z w3 ⟨v3,rfl,o3⟩
  have N3:=zH (N2.out.trans o3.2.2.1)
  clear o3
  go_wp2
  refine bodyPost_ret (v:=.tuple #[.slice none 0 0,.slice none 0 0,.int .i64 0,.int .i64 14]) (by simp[results,Tryz.results9,go_sem]) rfl ⟨_,_,rfl,OwnE.nil N3.out,OwnP.nil N3.out⟩
 subst c2
 rw[if_neg (by simp)]at hr
 have hpl:=(rightL_bound (hrt rfl)).2.1
 obtain⟨np,hnp⟩:=zN (pl.length)
 rw[hnp]at hpl
 have HNP:=zH hnp
 obtain⟨R,hR⟩:=zN (pcsD unpackB d pl [] 0)
 rw[hR]at hr
 have HR:=zH hR
 have HRR:=zH hr
 obtain⟨i0,hi,hz0,hz1,hz2⟩:=info_parts infoEv
 have HI:=zH hi
 have HZ0:=zH hz0
 have HZ1:=zH hz1
 have HZ2:=zH hz2
 clear hi hz0 hz1 hz2 hr hR hrt hnp
 go_enter Tryz.func9,Tryz.ntmps9
 go_upto_region 1 with fail
 (try rw[hq0])
 clear hw1 hq0
 obtain⟨k0,k1,k2,k3,-⟩:=box_cells B1.out
 have CR:=zH ((RDW.out w1 (Nw.refl _)).read HM.out)
 go_wp2_with fail
 refine CR.out.mono ?_
 rintro z w2 ⟨ra,rc,rfl,b2,n2⟩
 have O1:=zH b2
 have N2:=zH n2
 clear b2 n2 CR HM k0 k1 k2 k3
 go_wp2_with fail
 refine (HP.out w2 _ O1.out).mono ?_
 rintro z w3 ⟨v3,rfl,o3⟩
 have N3:=zH (N2.out.trans o3.2.2.1)
 have P3:=zH o3.pcs
 have OP3:=zH (OwnP.from (N1.out.trans N2.out) o3)
 obtain⟨pa,pc,rfl,hpc1,hpc2,-⟩:=o3.pcs.elem
 rw[HNP.out]at hpc1 P3 OP3 ⊢
 clear o3 hpc2 N2 HP O1
 go_wp2
 go_loopw [9,10,11] (fun s gv i wr=>∃(k m:Nat) (out:List Ev) (g:Int),k≤np∧i=.int .i64 k∧gv=.int .i64 g∧pcsD unpackB d (pl.drop k) out g=R∧Vec 5 wr s m (out.flatMap evV)∧out.length=m∧m≤16777216*k∧Nw w1 wr∧Nw w3 wr∧∀g,s.ownBlock=some g→w3.heap.size≤g) (fun _ _ i _=>np-(intOf i).toNat)
 case atStart=>exact⟨0,0,[],0,Nat.zero_le _,rfl,rfl,HR.out,Vec.nil,rfl,by omega,N3.out,Nw.refl _,fun g hg=>by cases hg⟩
 case round =>
  obtain⟨k,m,out,gd,hk,rfl,rfl,htf,hs,hm,hmk,hw,hw2,hfr⟩:=hrel
  obtain⟨sa,sc,rfl,-⟩:=hs.len
  have HS:=zH (And.intro hs (And.intro hw (And.intro hw2 hfr)))
  have HTF:=zH htf
  have HML:=zH hm
  clear hs hw hw2 hfr htf hm HR
  by_cases hlt:k<np
  case neg =>
   obtain rfl:k=np:=by omega
   have q5:decide ((k:Int)<(k:Int))=false:=by simp
   have rr:=HTF.out
   rw[List.drop_of_length_le (by rw[HNP.out];exact Nat.le_refl _)]at rr
   unfold pcsD at rr
   have r2:=HRR.out
   rw[←rr,if_neg (by simp)]at r2
   obtain⟨rfl,rfl,rfl,rfl⟩:out=es∧pl=ps∧gd=good∧0=x:=by simpa using r2
   clear rr r2
   go_wp2
   refine bodyPost_ret (v:=.tuple #[.slice sa m sc,.slice pa k pc,.int .i64 gd,.int .i64 0]) (by simp[results,Tryz.results9,go_sem]) rfl ⟨_,_,rfl,⟨?_,N1.out.trans HS.out.2.1,fun g hg=>Nat.le_trans (N1.out.trans N3.out).size (HS.out.2.2.2 g hg)⟩,OP3.out.nw HS.out.2.2.1⟩
   rw[HML.out];exact HS.out.1
  have q5:decide ((k:Int)<(np:Int))=true:=by simp;omega
  have hkl:k<pl.length:=by rw[HNP.out];exact hlt
  obtain⟨g,o,hpe,hg,x0,x1,x2,x3⟩:=pcs_at P3.out HNP.out hlt
  subst hpe
  have x0:=HS.out.2.2.1.cell x0
  have x1:=HS.out.2.2.1.cell x1
  have x2:=HS.out.2.2.1.cell x2
  have x3:=HS.out.2.2.1.cell x3
  have hg:=Nat.lt_of_lt_of_le hg HS.out.2.2.1.size
  have rr:=HTF.out
  rw[List.drop_eq_getElem_cons hkl,pcsD_cons]at rr
  obtain⟨op,hop⟩:∃t:Bool,decide (pl.drop (k+1)=[])=t:=⟨_,rfl⟩
  have hlast:decide ((k:Int)<(np:Int)-1) = !op:=by
   rw[←hop]
   have h2:(pl.drop (k+1)=[])↔¬ (k:Int)<(np:Int)-1:=by rw[←HNP.out,List.drop_eq_nil_iff];omega
   by_cases hc:(k:Int)<(np:Int)-1
   ·rw[decide_eq_true hc,decide_eq_false (fun h=>h2.1 h hc)];rfl
   ·rw[decide_eq_false hc,decide_eq_true (h2.2 hc)];rfl
  rw[hop]at rr
  generalize (pl[k]:Pc)=q at x0 x1 x2 x3 rr
  have HLAST:=zH hlast
  have hsub:IntKind.i64.wrap ((np:Int)-1)=(np:Int)-1:=IntWalk.i64_in _ (by omega)
  obtain⟨⟨l,x4⟩,hrd⟩:=zN (d.read q.name)
  have hll:=HRM.out q.name
  have hx4:=HPRN.out q.name
  rw[hrd]at hll hx4
  simp only at hll hx4
  have hpd:pieceD unpackB d q op=if x4≠0 then ([],0,14) else if segBad unpackB q op l then ([],0,14) else ((segR unpackB q.dense l).2.1,(segR unpackB q.dense l).2.2.1,0):=by
   unfold pieceD readFl
   rw[hrd]
   rcases hx4 with h|h
   ·simp[h]
   ·simp[h]
  have HRET:Hid (pieceD unpackB d q op=([],0,14)→[]=es∧[]=ps∧0=good∧14=x):=zH (fun h=>by
   rw[h,if_pos (by simp)]at rr
   have r2:=HRR.out
   rw[←rr,if_pos (by simp)]at r2
   simpa using r2)
  have HGO:Hid (∀es1 g1,pieceD unpackB d q op=(es1,g1,0)→pcsD unpackB d (pl.drop (k+1)) (out++es1) g1=R):=zH (fun es1 g1 h=>by
   rw[h,if_neg (by simp)]at rr
   exact rr)
  have HPD:=zH hpd
  have na:=(Nw.refl wr).alloc (.cells #[.string ⟨q.name.toArray⟩,.int .i64 q.first,.int .i64 q.count,.bool q.dense] 98)
  have hB:=heap_alloc_new wr (.cells #[.string ⟨q.name.toArray⟩,.int .i64 q.first,.int .i64 q.count,.bool q.dense] 98)
  obtain⟨pb,hpb⟩:=zN (wr.heap.size)
  rw[hpb]at hB
  have NA:=zH na
  have BP:=zH hB
  have CR:=zH (fun W (hW:Nw w1 W)=>(RDW.out W hW).read hrd)
  clear rr HTF hlast na hB hrd hop hpd hkl
  go_upto_region 15 with fail
  generalize wr.alloc (.cells #[.string ⟨q.name.toArray⟩,.int .i64 q.first,.int .i64 q.count,.bool q.dense] 98)=w4 at NA BP ⊢
  (try rw[hpb])
  have NW4:=zH (HS.out.2.1.trans NA.out)
  have hb4:=NW4.out.at_ B1.out
  obtain⟨k0,k1,k2,k3,-⟩:=box_cells hb4
  obtain⟨y0,y1,y2,y3,-⟩:=box_cells BP.out
  have hl4:=lt_of_block hb4
  have hl5:=lt_of_block BP.out
  clear hb4 hpb x0 x1 x2 x3 hg
  have CR:=zH (CR.out w4 NW4.out)
  go_wp2_with fail
  refine CR.out.mono ?_
  rintro z w5 ⟨la,lc,rfl,b5,n5⟩
  have N5:=zH (NA.out.trans n5)
  have NW5:=zH (NW4.out.trans n5)
  have BP5:=zH (n5.at_ BP.out)
  have LB:=zH b5
  clear b5 n5 CR k0 k1 k2 k3 y0 y1 y2 y3 hl4 hl5 NA NW4 BP
  by_cases c4:x4=0
  case neg =>
   have q6:(x4 !=0)=true:=by simpa using c4
   have r0:=HRET.out (by rw[HPD.out,if_pos c4])
   obtain⟨rfl,rfl,rfl,rfl⟩:=r0
   clear hx4
   go_wp2
   refine bodyPost_ret (v:=.tuple #[.slice none 0 0,.slice none 0 0,.int .i64 0,.int .i64 14]) (by simp[results,Tryz.results9,go_sem]) rfl ⟨_,_,rfl,OwnE.nil (N1.out.trans NW5.out),OwnP.nil (N1.out.trans NW5.out)⟩
  subst c4
  clear hx4
  have hpd:=HPD.out
  rw[if_neg (show ¬ ((0:Int)≠0) by simp)]at hpd
  have HPD2:=zH hpd
  clear HPD
  obtain⟨ln,hln⟩:=zN (l.length)
  rw[hln]at hll LB ⊢
  have HLN:=zH hln
  obtain⟨⟨fi,se,g2,er⟩,hS⟩:=zN (segR unpackB q.dense l)
  have HSeg:=zH hS
  have hbad:segBad unpackB q op l↔(er≠0∨fi≠q.first∨(op=false∧(g2<ln∨(se.length:Int)≠q.count))):=by unfold segBad;rw[hS,hln]
  rw[hS]at HPD2
  have hsl:=segR_len (fun b=>(by have:=unpack_len b;omega:(unpackB b).2.1.length≤16777216)) (l:=l) (by omega) q.dense
  have hgp:g2≤(ln:Int):=by
   have h0:(segR unpackB q.dense l).2.2.1=g2:=by rw[hS]
   rw[←h0,←hln]
   unfold segR
   split
   ·simp
   ·exact scanB_place l
  rw[hS]at hsl
  simp only at hsl HPD2
  obtain⟨ne,hne⟩:=zN (se.length)
  rw[hne]at hbad hsl
  have HNE:=zH hne
  have HBAD:=zH hbad
  clear hpd hS hbad hne hln
  obtain⟨qn,qf,qc,qd⟩:=q
  simp only at HSeg HBAD BP5 HPD2 HRET HGO
  have hb5:=BP5.out
  obtain⟨y0,y1,y2,y3,-⟩:=box_cells hb5
  have hl5:=lt_of_block hb5
  clear hb5
  go_upto_if 56 with fail
  go_cut [10,14,15,16] (fun vg ve vf vv wx=>∃a c,ve=.int .i64 er∧vf=.int .i64 fi∧vg=.int .i64 g2∧vv=.slice a ne c∧OwnE w5 wx vv se)
  case first =>
   cases qd
   ·have CS:=zH (dScan_ok LB.out (by rw[HLN.out];omega) (n:=fi) (r:=se) (g:=g2) (e:=er) (by have:=HSeg.out;unfold segR at this;simpa using this))
    go_wp2_with fail
    refine CS.out.mono ?_
    rintro z w6 ⟨v6,rfl,o6⟩
    have o61:=o6.1.len
    rw[HNE.out]at o61
    obtain⟨ya,yc,rfl,-⟩:=o61
    have O6:=zH o6
    clear o6
    go_wp2_with fail
    go_meet
    case rel=>exact⟨ya,yc,rfl,rfl,rfl,rfl,O6.out⟩
   ·have hs:=HSeg.out
    unfold segR at hs
    simp only[if_true,Prod.mk.injEq]at hs
    obtain⟨a1,a2,a3,a4⟩:=hs
    have CU:=dUnpack_ok LB.out (by rw[HLN.out];omega)
    unfold UnpP at CU
    rw[a1,a2,a4]at CU
    rw[HLN.out]at a3
    have CU:=zH CU
    subst a3
    clear a1 a2 a4
    go_wp2_with fail
    refine CU.out.mono ?_
    rintro z w6 ⟨v6,rfl,o6⟩
    have o61:=o6.1.len
    rw[HNE.out]at o61
    obtain⟨ya,yc,rfl,-⟩:=o61
    have O6:=zH o6
    clear o6
    go_wp2_with fail
    go_meet
    case rel=>exact⟨ya,yc,rfl,rfl,rfl,rfl,O6.out⟩
  case rest =>
   obtain⟨ya,yc,rfl,rfl,rfl,rfl,o6⟩:=hcut
   have O6:=zH o6
   have N6:=zH (N5.out.trans o6.2.1)
   have NW6:=zH (NW5.out.trans o6.2.1)
   have hb6:=o6.2.1.at_ BP5.out
   clear y0 y1 y2 y3 hl5 o6
   obtain⟨y0,y1,y2,y3,-⟩:=box_cells hb6
   have hl6:=lt_of_block hb6
   clear hb6
   by_cases d1:er=0
   case neg =>
    have q6:(er !=0)=true:=by simpa using d1
    have r0:=HRET.out (by rw[HPD2.out,if_pos (HBAD.out.2 (.inl d1))])
    obtain⟨rfl,rfl,rfl,rfl⟩:=r0
    go_wp2
    refine bodyPost_ret (v:=.tuple #[.slice none 0 0,.slice none 0 0,.int .i64 0,.int .i64 14]) (by simp[results,Tryz.results9,go_sem]) rfl ⟨_,_,rfl,OwnE.nil (N1.out.trans NW6.out),OwnP.nil (N1.out.trans NW6.out)⟩
   subst d1
   by_cases d2:fi=qf
   case neg =>
    have q6:(fi !=qf)=true:=by simpa using d2
    have r0:=HRET.out (by rw[HPD2.out,if_pos (HBAD.out.2 (.inr (.inl d2)))])
    obtain⟨rfl,rfl,rfl,rfl⟩:=r0
    go_wp2
    refine bodyPost_ret (v:=.tuple #[.slice none 0 0,.slice none 0 0,.int .i64 0,.int .i64 14]) (by simp[results,Tryz.results9,go_sem]) rfl ⟨_,_,rfl,OwnE.nil (N1.out.trans NW6.out),OwnP.nil (N1.out.trans NW6.out)⟩
   have q6:(fi !=qf)=false:=by simpa using d2
   have HD2:=zH d2
   clear d2
   have hop2:op=true∨op=false:=by cases op <;> simp
   by_cases d3:op=false∧(g2≠(ln:Int)∨(ne:Int)≠qc)
   case pos =>
    obtain⟨rfl,d4⟩:=d3
    have hlast:=HLAST.out
    rw[Bool.not_false]at hlast
    have r0:=HRET.out (by rw[HPD2.out,if_pos (HBAD.out.2 (.inr (.inr ⟨rfl,d4.imp (fun h=>by omega) id⟩)))])
    by_cases d5:g2=(ln:Int)
    ·have q7:(g2 !=(ln:Int))=false:=by simpa using d5
     have q8:((ne:Int)!=qc)=true:=by simpa using d4.resolve_left (fun h=>h d5)
     have HD5:=zH d5
     clear d4 d5
     obtain⟨rfl,rfl,rfl,rfl⟩:=r0
     go_wp2
     refine bodyPost_ret (v:=.tuple #[.slice none 0 0,.slice none 0 0,.int .i64 0,.int .i64 14]) (by simp[results,Tryz.results9,go_sem]) rfl ⟨_,_,rfl,OwnE.nil (N1.out.trans NW6.out),OwnP.nil (N1.out.trans NW6.out)⟩
    ·have q7:(g2 !=(ln:Int))=true:=by simpa using d5
     clear d4
     obtain⟨rfl,rfl,rfl,rfl⟩:=r0
     go_wp2
     refine bodyPost_ret (v:=.tuple #[.slice none 0 0,.slice none 0 0,.int .i64 0,.int .i64 14]) (by simp[results,Tryz.results9,go_sem]) rfl ⟨_,_,rfl,OwnE.nil (N1.out.trans NW6.out),OwnP.nil (N1.out.trans NW6.out)⟩
   have hno:¬ segBad unpackB ⟨qn,qf,qc,qd⟩ op l:=fun hb=>by
    rcases HBAD.out.1 hb with h|h|⟨h1,h2⟩
    ·exact h rfl
    ·exact h HD2.out
    ·exact d3 ⟨h1,h2.imp (fun h=>by omega) id⟩
   have hgo:=HGO.out se g2 (by rw[HPD2.out,if_neg hno])
   have HGO2:=zH hgo
   have V6:=zH (HS.out.1.nw N6.out)
   have X6:Hid (SrcV 5 wc (.slice ya ne yc) ne (se.flatMap evV)):=zH (by have:=O6.out.1.src;rwa [HNE.out]at this)
   have hbnd:m+ne≤16777216*(k+1):=by omega
   clear hno hgo
   go_upto_region 26 with fail
   go_cut [95] (fun t wx=>t=.bool false∧wx=wc)
   case first =>
    have hlast:=HLAST.out
    cases op
    ·rw[Bool.not_false]at hlast
     have d4:g2=(ln:Int)∧(ne:Int)=qc:=by
      refine⟨?_,?_⟩
      ·rcases Decidable.em (g2=(ln:Int)) with h|h
       ·exact h
       ·exact absurd ⟨rfl,.inl h⟩ d3
      ·rcases Decidable.em ((ne:Int)=qc) with h|h
       ·exact h
       ·exact absurd ⟨rfl,.inr h⟩ d3
     have q7:(g2 !=(ln:Int))=false:=by simpa using d4.1
     have q8:((ne:Int)!=qc)=false:=by simpa using d4.2
     clear d4 d3
     go_wp2_with fail
     go_meet
     case rel=>exact⟨rfl,rfl⟩
    ·rw[Bool.not_true]at hlast
     clear d3
     go_wp2_with fail
     go_meet
     case rel=>exact⟨rfl,rfl⟩
   case rest =>
    obtain⟨rfl,rfl⟩:=hcut
    clear d3
    go_wp2_with (at_builtin;refine wpList_append_vec rfl _ _ 31 rfl 87 i0 (.agg #[.int .i64 0,.int .u8 0,.int .i64 0,.int .i64 0,.int .i64 0]) 5 40 Tryz.underlying31 HI.out HZ0.out HZ1.out HZ2.out rfl (by decide) rfl rfl V6.out X6.out ?c1 ?c2 ?c3 ?_)
    case c1=>exact evV_one se
    case c2=>unfold maxLen;omega
    case c3=>omega
    intro v7 w7 q5 q6 q7
    obtain⟨ta,tc,rfl,-⟩:=q5.len
    have Q:=zH (And.intro q5 (And.intro q6 q7))
    clear q5 q6 q7
    have hwk:IntKind.i64.wrap ((k:Int)+1)=((k+1:Nat):Int):=by rw[←Int.natCast_one,←Int.natCast_add];exact IntWalk.i64_in _ (by omega)
    go_wp2
    go_roundw
    case rel =>
     have h0:=N3.out.size
     have hnw2:Nw w3 w7:=(HS.out.2.2.1.trans N6.out).trans' Q.out.2.1 (fun g hg hc=>by have:=HS.out.2.2.2 g hc;omega)
     refine⟨k+1,m+ne,out++se,g2,by omega,by first|rfl|(simp;done)|rw[hwk],rfl,HGO2.out,by rw[List.flatMap_append];exact Q.out.1,by rw[List.length_append,HML.out,HNE.out],hbnd,N3.out.trans hnw2,hnw2,fun g hg=>?_⟩
     rcases Q.out.2.2 with h|h
     ·exact HS.out.2.2.2 g (h▸hg)
     ·exact Nat.le_trans (HS.out.2.2.1.trans N6.out).size (h g hg)
    case measure=>simp only[intOf];omega
set_option maxHeartbeats 1600000
theorem dgt0 (W:World):(Instr.slice 9 (.string ⟨#[48,49,50,51,52,53,54,55,56,57]⟩) (some (.int .i64 0)) (some (.int .i64 1)) none).run Tryz.prog W=.ok (.string ⟨#[48]⟩) W:=by kernel_rfl
theorem dgt1 (W:World):(Instr.slice 9 (.string ⟨#[48,49,50,51,52,53,54,55,56,57]⟩) (some (.int .i64 1)) (some (.int .i64 2)) none).run Tryz.prog W=.ok (.string ⟨#[49]⟩) W:=by kernel_rfl
theorem dgt2 (W:World):(Instr.slice 9 (.string ⟨#[48,49,50,51,52,53,54,55,56,57]⟩) (some (.int .i64 2)) (some (.int .i64 3)) none).run Tryz.prog W=.ok (.string ⟨#[50]⟩) W:=by kernel_rfl
theorem dgt3 (W:World):(Instr.slice 9 (.string ⟨#[48,49,50,51,52,53,54,55,56,57]⟩) (some (.int .i64 3)) (some (.int .i64 4)) none).run Tryz.prog W=.ok (.string ⟨#[51]⟩) W:=by kernel_rfl
theorem dgt4 (W:World):(Instr.slice 9 (.string ⟨#[48,49,50,51,52,53,54,55,56,57]⟩) (some (.int .i64 4)) (some (.int .i64 5)) none).run Tryz.prog W=.ok (.string ⟨#[52]⟩) W:=by kernel_rfl
theorem dgt5 (W:World):(Instr.slice 9 (.string ⟨#[48,49,50,51,52,53,54,55,56,57]⟩) (some (.int .i64 5)) (some (.int .i64 6)) none).run Tryz.prog W=.ok (.string ⟨#[53]⟩) W:=by kernel_rfl
theorem dgt6 (W:World):(Instr.slice 9 (.string ⟨#[48,49,50,51,52,53,54,55,56,57]⟩) (some (.int .i64 6)) (some (.int .i64 7)) none).run Tryz.prog W=.ok (.string ⟨#[54]⟩) W:=by kernel_rfl
theorem dgt7 (W:World):(Instr.slice 9 (.string ⟨#[48,49,50,51,52,53,54,55,56,57]⟩) (some (.int .i64 7)) (some (.int .i64 8)) none).run Tryz.prog W=.ok (.string ⟨#[55]⟩) W:=by kernel_rfl
theorem dgt8 (W:World):(Instr.slice 9 (.string ⟨#[48,49,50,51,52,53,54,55,56,57]⟩) (some (.int .i64 8)) (some (.int .i64 9)) none).run Tryz.prog W=.ok (.string ⟨#[56]⟩) W:=by kernel_rfl
theorem dgt9 (W:World):(Instr.slice 9 (.string ⟨#[48,49,50,51,52,53,54,55,56,57]⟩) (some (.int .i64 9)) (some (.int .i64 10)) none).run Tryz.prog W=.ok (.string ⟨#[57]⟩) W:=by kernel_rfl
theorem dgt_at (k:Nat) (hk:k<10) (W:World):(Instr.slice 9 (.string ⟨#[48,49,50,51,52,53,54,55,56,57]⟩) (some (.int .i64 k)) (some (.int .i64 ((k:Int)+1))) none).run Tryz.prog W=.ok (.string ⟨#[UInt8.ofNat (48+k)]⟩) W:=by
 match k,hk with
 |0,_=>exact dgt0 W
 |1,_=>exact dgt1 W
 |2,_=>exact dgt2 W
 |3,_=>exact dgt3 W
 |4,_=>exact dgt4 W
 |5,_=>exact dgt5 W
 |6,_=>exact dgt6 W
 |7,_=>exact dgt7 W
 |8,_=>exact dgt8 W
 |9,_=>exact dgt9 W
theorem decDigits_more {q:Nat}(h:0<q) (l:List UInt8):Lib.decDigits q++l=if q / 10=0 then UInt8.ofNat (48+q % 10)::l else Lib.decDigits (q / 10)++(UInt8.ofNat (48+q % 10)::l):=by
 by_cases h10:q<10
 ·have e:q / 10=0:=by omega
  have e2:q % 10=q:=by omega
  rw[if_pos e,Lib.decDigits,dif_pos h10,e2]
  rfl
 ·have e:q / 10≠0:=by omega
  rw[if_neg e]
  conv=>lhs;rw[Lib.decDigits,dif_neg h10]
  simp
theorem dDec_ok (w:World) (n:Nat) (hn:n≤9223372036854775807):Calls Tryz.prog 64 #[.int .i64 n] w fun e w'=>e=.returned (.string ⟨(Lib.decDigits n).toArray⟩)∧w=w':=by
 have hm:Int.tmod (n:Int) 10=((n % 10:Nat):Int):=by rw[Int.tmod_eq_emod_of_nonneg (by omega)];omega
 have hd:Int.tdiv (n:Int) 10=((n / 10:Nat):Int):=by rw[Int.tdiv_eq_ediv_of_nonneg (by omega)];omega
 have hst:Lib.decDigits n=if n / 10=0 then [UInt8.ofNat (48+n % 10)] else Lib.decDigits (n / 10)++[UInt8.ofNat (48+n % 10)]:=by
  by_cases h:n<10
  ·have e:n / 10=0:=by omega
   have e2:n % 10=n:=by omega
   rw[if_pos e,e2,Lib.decDigits,dif_pos h]
  ·rw[if_neg (by omega)]
   conv=>lhs;rw[Lib.decDigits,dif_neg h]
 have HST:=zH hst
 clear hst
 obtain⟨r,hr⟩:=zN (n % 10)
 obtain⟨q,hq⟩:=zN (n / 10)
 have hrl:r<10:=by omega
 have hql:q≤922337203685477580:=by omega
 rw[hr]at hm HST
 rw[hq]at hd HST
 have hs:=dgt_at r hrl
 have hw1:IntKind.i64.wrap ((r:Int)+1)=(r:Int)+1:=IntWalk.i64_in _ (by omega)
 have hw2:IntKind.i64.wrap (q:Int)=(q:Int):=IntWalk.i64_in _ (by omega)
 obtain⟨c0,hc0⟩:∃c:UInt8,UInt8.ofNat (48+r)=c:=⟨_,rfl⟩
 rw[hc0]at hs HST
 clear hr hq hc0
 go_enter Tryz.func64,Tryz.ntmps64
 go_wp2
 go_loopw [0,3] (fun v s wr=>∃(j:Nat) (l:List UInt8),v=.int .i64 j∧s=.string ⟨l.toArray⟩∧j≤922337203685477580∧l.length+j≤922337203685477600∧(Lib.decDigits n=if j=0 then l else Lib.decDigits j++l)∧w=wr) (fun v _ _=>(intOf v).toNat)
 case atStart=>exact⟨q,[c0],rfl,rfl,hql,by simp only[List.length_singleton];omega,HST.out,rfl⟩
 case round =>
  obtain⟨j,l,rfl,rfl,hj,hl,hdl,rfl⟩:=hrel
  have HDL:=zH hdl
  clear hs hm hd hw1 hw2 hdl
  by_cases h0:0<j
  case neg =>
   have e:Lib.decDigits n=l:=by rw[HDL.out,if_pos (by omega)]
   have E:=zH e
   clear e
   go_wp2
   go_ret
   exact⟨by rw[E.out];rfl,rfl⟩
  have hm:Int.tmod (j:Int) 10=((j % 10:Nat):Int):=by rw[Int.tmod_eq_emod_of_nonneg (by omega)];omega
  have hd:Int.tdiv (j:Int) 10=((j / 10:Nat):Int):=by rw[Int.tdiv_eq_ediv_of_nonneg (by omega)];omega
  have hnx:Hid (Lib.decDigits n=if j / 10=0 then UInt8.ofNat (48+j % 10)::l else Lib.decDigits (j / 10)++(UInt8.ofNat (48+j % 10)::l)):=zH (by rw[HDL.out,if_neg (by omega),decDigits_more h0])
  obtain⟨r2,hr⟩:=zN (j % 10)
  obtain⟨q2,hq⟩:=zN (j / 10)
  rw[hr]at hm hnx
  rw[hq]at hd hnx
  have hs:=dgt_at r2 (by omega)
  have hw1:IntKind.i64.wrap ((r2:Int)+1)=(r2:Int)+1:=IntWalk.i64_in _ (by omega)
  have hw2:IntKind.i64.wrap (q2:Int)=(q2:Int):=IntWalk.i64_in _ (by omega)
  have hqj:q2<j:=by omega
  have hcat:(⟨#[UInt8.ofNat (48+r2)]⟩++⟨l.toArray⟩:ByteArray)=⟨((UInt8.ofNat (48+r2))::l).toArray⟩:=ByteArray.mk_append_mk [UInt8.ofNat (48+r2)] l
  have hll:l.length≤922337203685477600:=by omega
  obtain⟨ch,hch⟩:∃c:UInt8,UInt8.ofNat (48+r2)=c:=⟨_,rfl⟩
  rw[hch]at hs hcat hnx
  clear hr hq HDL hch
  go_wp2
  go_roundw
  case rel=>exact⟨q2,ch::l,by go_num,by rw[←hcat],by omega,by simp only[List.length_cons];omega,hnx.out,by first|rfl|trivial⟩
  case measure=>simp[intOf];omega
set_option maxHeartbeats 3200000
section
variable {X:Nat→Prop}{d d':Dsk}{v:Value}{w:World}
def RDB (X:Nat→Prop) (w:World) (d':Dsk) (k:Nat) (x:Int) (e:Ending) (w':World):Prop:=
 ∃(m:Int) (a:Option Addr) (n c:Nat) (la:Int) (dn:Bool),e=.returned (.tuple #[.agg #[.int .i64 m,.slice a n c,.int .i64 la,.bool dn],.int .i64 k,.int .i64 x])∧RD X w' (.agg #[.int .i64 m,.slice a n c,.int .i64 la,.bool dn]) d'∧Nw w w'
theorem segName_len (n:Nat) (hn:n≤4611686018427387904):(segName n).length≤100:=by
 unfold segName
 rw[List.length_cons,Lib.decDigits_length]
 have:=Lib.nDigits_le20 n (by omega)
 omega
theorem dBegin_ok (h:RD X w v d) (hX:∀k,w.heap.size≤k→X k){n:Nat}(hn:n≤4611686018427387904){x:Int}(hr:d.begun n=(d',x)) :
  Calls Tryz.prog 69 #[v,.int .i64 n] w (RDB X w d' (headB n).length x):=by
 have HR:=zH hr
 clear hr
 have HSL:=zH (segName_len n hn)
 have hsn:(⟨#[115]⟩++⟨(Lib.decDigits n).toArray⟩:ByteArray)=⟨(segName n).toArray⟩:=ByteArray.mk_append_mk [115] (Lib.decDigits n)
 obtain⟨dg,hdg⟩:=zN (Lib.decDigits n)
 have HDG:=zH hdg
 rw[hdg]at hsn
 obtain⟨sn,hsn2⟩:=zN (segName n)
 rw[hsn2]at hsn HSL
 have HSN:=zH hsn2
 have hdl:dg.length≤99:=by have h1:=HSL.out;have h2:=HSN.out;unfold segName at h2;rw[←h2,List.length_cons,HDG.out]at h1;omega
 clear hdg hsn2
 have HHL:=zH (headB_len (n:=n) (by omega))
 obtain⟨hb,hhb⟩:=zN (headB n)
 have HHB:=zH hhb
 rw[hhb]at HHL ⊢
 clear hhb
 obtain⟨m0,a0,n0,c0,la0,dn0,rfl⟩:=h.parts
 have S0:=zH (Stt.new h)
 have HX:=zH hX
 clear h hX
 obtain⟨w0,hw0⟩:=zN ((w.alloc (DB (.int .i64 m0) (.slice a0 n0 c0) (.int .i64 la0) (.bool dn0))).alloc (DB (.int .i64 0) (.slice none 0 0) (.int .i64 0) (.bool false)))
 rw[hw0]at S0
 unfold DB at hw0
 go_enter Tryz.func69,Tryz.ntmps69
 go_upto_region 1 with fail
 clear hw0
 have HE:=dHead_ok n hn w0
 rw[HHB.out]at HE
 have HE:=zH HE
 go_wp2_with fail
 refine HE.out.mono ?_
 rintro e w01 ⟨hv,rfl,hb1,nn,-⟩
 obtain⟨ha,hc,rfl,-⟩:=hb1.len
 have HBB:=zH hb1.rd
 have S00:=zH (S0.out.on nn)
 clear hb1 nn HE
 have HFR:Hid (d.fresh sn hb=(d',x)):=zH (by rw[←HSN.out,←HHB.out];exact HR.out)
 go_upto_region 2 with fail
 go_cut [9] (fun t wx=>∃(m:Int) (a:Option Addr) (nn c:Nat) (la:Int) (dn:Bool),t=.int .i64 x∧Stt X w wx d' m a nn c la dn)
 case first =>
  obtain⟨b0,b1,b2,b3,-⟩:=S00.out.cells
  have DK:=zH (fun W=>dDec_ok W n (by omega))
  rw[HDG.out]at DK
  have FK:=zH (fun W' (hW:Nw w01 W')=>dFile_ok (s:=sn) (S00.out.on hW).rd (S00.out.on hW).fresh (by have:=HSL.out;omega) (HBB.out.nw hW) (by have:=HHL.out;omega) HFR.out)
  go_region_with (first|(refine (DK.out _).mono ?_;rintro e y1 ⟨rfl,rfl⟩)|(refine (FK.out _ ((Nw.refl w01).drew)).mono ?_;rintro e y2 ⟨m1,a1,n1,c1,la1,dn1,rfl,dd,nn⟩;have SN:=(S00.out.on ((Nw.refl w01).drew)).on nn;obtain⟨p0,p1,p2,p3,g0,g1,g2,g3⟩:=SN.cells))
  all_goals
   go_wp2_with fail
   go_meet
   case rel =>
    obtain⟨w9,hw9,s9,-⟩:=(S00.out.on ((Nw.refl w01).drew)).step dd nn
    exact⟨m1,a1,n1,c1,la1,dn1,rfl,by rw[hw9];exact s9⟩
 case rest =>
  obtain⟨m1,a1,n1,c1,la1,dn1,rfl,s1⟩:=hcut
  have S1:=zH s1
  clear s1
  obtain⟨b0,b1,b2,b3,-⟩:=S1.out.cells
  obtain⟨u0,u1,u2,u3,r0,r1,r2,r3,f0,f1,f2,f3⟩:=S1.out.rcells
  go_wp2
  obtain⟨w9,hw9,D9,N9,-,B9⟩:=S1.out.fin HX.out
  rw[hw9]
  obtain⟨e0,e1,e2,e3,-⟩:=box_cells B9
  exact bodyPost_ret (v:=.tuple #[.agg #[.int .i64 m1,.slice a1 n1 c1,.int .i64 la1,.bool dn1],.int .i64 hb.length,.int .i64 x]) (by simp[results,Tryz.results69,go_sem,e0,e1,e2,e3]) rfl ⟨m1,a1,n1,c1,la1,dn1,rfl,D9,N9⟩
end
set_option maxHeartbeats 1600000
def LB (u0 u1 u2 u3 u4 u5:Value):Obj:=.cells #[u0,u1,u2,u3,u4,u5] 49 (0,0)
def logB (L:Lg) (pa:Option Addr) (pc:Nat):Obj:=LB (.int .i64 L.size) (.slice pa L.l.length pc) (.int .i64 L.n) (.int .i64 L.acked) (.int .i64 L.bytes) (.bool L.over)
def LogV (X:Nat→Prop) (w:World) (v:Value) (L:Lg):Prop:=∃(pa:Option Addr) (pc:Nat),v=.agg #[.int .i64 L.size,.slice pa L.l.length pc,.int .i64 L.n,.int .i64 L.acked,.int .i64 L.bytes,.bool L.over]∧Pcs w (.slice pa L.l.length pc) L.l∧(∀g,(Value.slice pa L.l.length pc).ownBlock=some g→X g)
section
variable {X Y:Nat→Prop}{d d':Dsk}{v:Value}{w wk w':World}{m la m' la':Int}{a a' pa pa':Option Addr}{n c n' c' pc pc' pl pd rd rl K:Nat}{dn dn':Bool}{L L':Lg}
theorem LogV.nw (h:LogV X w v L) (hw:Nw w w'):LogV X w' v L:=by
 obtain⟨pa,pc,h1,h2,h3⟩:=h
 exact⟨pa,pc,h1,h2.nw hw,h3⟩
theorem lb_cells {p:Nat}{u0 u1 u2 u3 u4 u5:Value}(h:w.heap[p]? = some (LB u0 u1 u2 u3 u4 u5)) :
  (w.cell? ⟨p,0,none⟩=some u0∧w.cell? ⟨p,1,none⟩=some u1∧w.cell? ⟨p,2,none⟩=some u2∧w.cell? ⟨p,3,none⟩=some u3∧w.cell? ⟨p,4,none⟩=some u4∧w.cell? ⟨p,5,none⟩=some u5) ∧
  w.frozen? ⟨p,0,none⟩=false∧w.frozen? ⟨p,1,none⟩=false∧w.frozen? ⟨p,2,none⟩=false∧w.frozen? ⟨p,3,none⟩=false∧w.frozen? ⟨p,4,none⟩=false∧w.frozen? ⟨p,5,none⟩=false:=by
 unfold LB at h
 simp[World.cell?,World.frozen?,h]
structure Sl (X:Nat→Prop) (w wk:World) (pl pd rd rl K:Nat) (d:Dsk) (m:Int) (a:Option Addr) (n c:Nat) (la:Int) (dn:Bool) (L:Lg) (pa:Option Addr) (pc:Nat):Prop where
 nw:Nw w wk
 lo:w.heap.size≤pl∧w.heap.size≤pd∧w.heap.size≤rd∧w.heap.size≤rl
 hi:pl<K∧pd<K∧rd<K∧rl<K
 kk:K≤wk.heap.size
 ne:pl≠pd∧pl≠rd∧pl≠rl∧pd≠rd∧pd≠rl∧rd≠rl
 bl:wk.heap[pl]? = some (logB L pa pc)
 bd:wk.heap[pd]? = some (DB (.int .i64 m) (.slice a n c) (.int .i64 la) (.bool dn))
 brd:∃u0 u1 u2 u3,wk.heap[rd]? = some (DB u0 u1 u2 u3)
 brl:∃u0 u1 u2 u3 u4 u5,wk.heap[rl]? = some (LB u0 u1 u2 u3 u4 u5)
 rdk:RD (fun k=>X k∧k<w.heap.size∨K≤k) wk (.agg #[.int .i64 m,.slice a n c,.int .i64 la,.bool dn]) d
 pcs:Pcs wk (.slice pa L.l.length pc) L.l
 own:∀g,(Value.slice pa L.l.length pc).ownBlock=some g→(X g∧g<w.heap.size∨K≤g)
theorem only_set6 (w1:World) (p:Nat) (a b c d e f:Value):Only (fun k=>k=p) w1 ((((((w1.setCell ⟨p,0,none⟩ a).setCell ⟨p,1,none⟩ b).setCell ⟨p,2,none⟩ c).setCell ⟨p,3,none⟩ d).setCell ⟨p,4,none⟩ e).setCell ⟨p,5,none⟩ f):=by
 refine Only.setCell (S:=fun k=>k=p) (p:=⟨p,5,none⟩) ?_ (fun _=>rfl) f
 refine Only.setCell (S:=fun k=>k=p) (p:=⟨p,4,none⟩) ?_ (fun _=>rfl) e
 exact only_set4 w1 p a b c d
theorem heap_set6 {w1:World}{p:Nat}{u0 u1 u2 u3 u4 u5:Value}(h:w1.heap[p]? = some (LB u0 u1 u2 u3 u4 u5)) (a b c d e f:Value) :
  ((((((w1.setCell ⟨p,0,none⟩ a).setCell ⟨p,1,none⟩ b).setCell ⟨p,2,none⟩ c).setCell ⟨p,3,none⟩ d).setCell ⟨p,4,none⟩ e).setCell ⟨p,5,none⟩ f).heap[p]? = some (LB a b c d e f):=by
 have:=heap_setCell_at (heap_setCell_at (heap_setCell_at (heap_setCell_at (heap_setCell_at (heap_setCell_at h 0 a) 1 b) 2 c) 3 d) 4 e) 5 f
 simpa [LB] using this
end
set_option maxHeartbeats 3200000
section
variable {X Y:Nat→Prop}{d d':Dsk}{v lv:Value}{w wk w':World}{L L':Lg}
end
set_option maxHeartbeats 1600000
section
variable {X:Nat→Prop}{d:Dsk}{w wk:World}{m la:Int}{a pa pa':Option Addr}{n c pc pc' pl pd rd rl K:Nat}{dn:Bool}{L L':Lg}
end
end Go.Proofs.YtkbenkldfehhlaaGreatDoor
