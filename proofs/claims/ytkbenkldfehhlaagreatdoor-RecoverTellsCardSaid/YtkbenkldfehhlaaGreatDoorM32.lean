/-
  Texts merged by a program of this claim's: Ref05C, DocRead, DocHead.
-/
import Derived.Test.YtkbenkldfehhlaaGreatDoorM31
import Derived.BigQuiet
import Derived.Test.YtkbenkldfehhlaaGreatDoorM11
import Derived.Test.YtkbenkldfehhlaaGreatDoorM23
namespace Go.Proofs.YtkbenkldfehhlaaGreatDoor
open Go Go.RowKit Go.Sort
set_option maxRecDepth 100000
set_option maxHeartbeats 3200000
theorem take_eq_prefix {a b:List UInt8}{k:Nat}(h:a.take k=b.take k) (hk:b.length=k) (_ha:k≤a.length):b <+: a:=by
 rw[List.take_of_length_le (by omega:b.length≤k)]at h
 exact⟨a.drop k,by rw[←h];exact List.take_append_drop k a⟩
theorem not_prefix {a b:List UInt8}{k:Nat}(hk:k<b.length) (h:a.length≤k∨∃(h:k<a.length),a[k]≠b[k]):¬ b <+: a:=by
 rintro ⟨t,rfl⟩
 rcases h with h|⟨h,h2⟩
 ·rw[List.length_append]at h;omega
 ·exact h2 (List.getElem_append_left hk)
theorem dListed_ok {w:World}{v:Value}{l:List UInt8}(hv:Bs w v l) (hl:l.length≤14000000){r:List Pc}{e:Int}(hr:listedB l=(r,e)) :
  Calls Tryz.prog 46 #[v] w fun z w'=>∃v',z=.returned (.tuple #[v',.int .i64 e])∧OwnP w w' v' r:=by
 obtain⟨a,cap,rfl,h1,h2,hel⟩:=hv.elems
 obtain⟨⟨u,e1⟩,hun⟩:=zN (unsealB l)
 have HUN:=zH (rUnseal_ok hv hl hun)
 have hul:=unsealB_len (b:=l)
 unfold listedB at hr
 rw[hun]at hr hul
 simp only at hr hul
 clear hv h1 h2 hel hun
 by_cases c1:e1=0
 case neg =>
  have q1:(e1 !=0)=true:=by simpa using c1
  rw[if_pos c1]at hr
  obtain⟨rfl,rfl⟩:[]=r∧e1=e:=by simpa using hr
  clear hul hr
  go_enter Tryz.func46,Tryz.ntmps46
  go_wp2_with fail
  refine HUN.out.mono ?_
  rintro z w1 ⟨v1,rfl,-,n1⟩
  have N1:=zH n1
  clear n1
  go_wp2
  refine bodyPost_ret (v:=.tuple #[.slice none 0 0,.int .i64 e1]) (by simp[results,Tryz.results46,go_sem]) rfl ⟨_,rfl,OwnP.nil N1.out⟩
 subst c1
 have hul:=hul rfl
 rw[if_neg (by simp)]at hr
 obtain⟨ul,hulen⟩:=zN (u.length)
 have HBAD:Hid (¬ magicS <+: u→[]=r∧10=e):=zH (fun h=>by
  unfold listedIn at hr
  rw[if_pos h]at hr
  simpa using hr)
 obtain⟨⟨n0,x0,e0⟩,hu⟩:=zN (getU u 4)
 have hf:=getU_fine (b:=u) (at_:=4)
 rw[hu]at hf
 simp only at hf
 have HGU:=zH (fun (W:World) (v:Value) (hb:Bs W v u)=>rGetUint_ok hb (by omega) 4 (by omega) (by omega) hu)
 have HF:=zH hf
 have HR:Hid (magicS <+: u→(if e0≠0 then (([]:List Pc),(10:Int)) else match pcsFrom u n0 x0 [] with
   |none=>([],10)
   |some (l,at_)=>if at_<u.length then ([],10) else if rightL l then (l,0) else ([],14))=(r,e)):=zH (fun h=>by
  unfold listedIn at hr
  rw[if_neg (by simpa using h),hu]at hr
  exact hr)
 have hul2:ul≤14000000:=by omega
 have HUL:=zH hulen
 clear hu hf hr hul hulen
 go_enter Tryz.func46,Tryz.ntmps46
 go_wp2_with fail
 refine HUN.out.mono ?_
 rintro z w1 ⟨v1,rfl,b1,n1⟩
 obtain⟨xa,xc,rfl,hxc,-,hel⟩:=b1.elems
 rw[HUL.out]at b1 hxc ⊢
 have NL:=(Nw.refl w1).alloc (.cells #[.int .u8 65,.int .u8 77,.int .u8 77,.int .u8 49] 5 (0,0))
 have M1:Bs (w1.alloc (.cells #[.int .u8 65,.int .u8 77,.int .u8 77,.int .u8 49] 5 (0,0))) (.slice (some ⟨w1.heap.size,0,none⟩) 4 4) magicS:=rd_lit (f:=u8) w1 5 (0,0) magicS _ 4 rfl (by decide) (by decide)
 have EL:=zH (fun i (hi:i<u.length)=>hel i hi)
 obtain⟨ma,mcap,hme,-,-,hml⟩:=M1.elems
 have ML:=zH (fun i (hi:i<4)=>hml i hi)
 cases hme
 have N1:=zH n1
 have B1:=zH b1
 have NL:=zH NL
 clear n1 b1 hel hml M1 HUN
 go_wp2
 go_loopw [7] (fun iv wr=>∃k:Nat,k≤4∧k≤ul∧iv=.int .i64 k∧u.take k=magicS.take k∧Nw (w1.alloc (.cells #[.int .u8 65,.int .u8 77,.int .u8 77,.int .u8 49] 5 (0,0))) wr) (fun iv _=>4-(intOf iv).toNat)
 case atStart=>exact⟨0,by omega,by omega,rfl,rfl,Nw.refl _⟩
 case round =>
  obtain⟨k,hk,hku0,rfl,htk,hw⟩:=hrel
  have HTK:=zH htk
  have HW:=zH hw
  have N2:=zH (N1.out.trans (NL.out.trans hw))
  clear htk hw
  by_cases hk4:k<4
  ·obtain⟨mg,mo,hme,hmg,hmc⟩:=ML.out k hk4
   cases hme
   have z1:=HW.out.cell hmc
   rw[Nat.zero_add]at z1
   have hmg':=Nat.lt_of_lt_of_le hmg HW.out.size
   obtain⟨cb,hcb⟩:∃cb:UInt8,cb=magicS[k]'hk4:=⟨_,rfl⟩
   rw[←hcb]at z1
   have HCB:=zH hcb
   clear hmc hmg hcb
   change World.cell? _ _=some (.int .u8 (cb.toNat:Int)) at z1
   by_cases hku:k<ul
   ·obtain⟨ug,uo,rfl,hug,huc⟩:=EL.out k (by rw[HUL.out];exact hku)
    have z2:=((NL.out.trans HW.out).cell huc)
    have hug':=Nat.lt_of_lt_of_le hug (NL.out.trans HW.out).size
    obtain⟨ca,hca⟩:∃ca:UInt8,ca=u[k]'(by rw[HUL.out];exact hku):=⟨_,rfl⟩
    rw[←hca]at z2
    have HCA:=zH hca
    clear huc hug hca
    change World.cell? _ _=some (.int .u8 (ca.toNat:Int)) at z2
    have hd1:decide ((ul:Int)≤(k:Int))=false:=by simp;omega
    have hd2:decide (ul≤k)=false:=by simp;omega
    by_cases hcc:ca=cb
    ·have heq:((ca.toNat:Int)!=(cb.toNat:Int))=false:=by rw[hcc];simp
     have hsnoc:Hid (u.take (k+1)=magicS.take (k+1)):=zH (by
      rw[List.take_add_one,List.take_add_one,HTK.out,List.getElem?_eq_getElem (by rw[HUL.out];exact hku),List.getElem?_eq_getElem (l:=magicS) hk4,←HCA.out,←HCB.out,hcc])
     have hwk:IntKind.i64.wrap ((k:Int)+1)=((k+1:Nat):Int):=by rw[←Int.natCast_one,←Int.natCast_add];exact IntWalk.i64_in _ (by omega)
     clear hcc
     go_upto_region 8 with fail
     go_quiet (fail)
     go_wp2_with fail
     go_roundw
     case rel=>exact⟨k+1,by omega,by omega,by first|rfl|(simp;done)|rw[hwk],hsnoc.out,HW.out.drewN _⟩
     case measure=>simp only[intOf];omega
    ·have hne:((ca.toNat:Int)!=(cb.toNat:Int))=true:=by
      simp only[bne_iff_ne,ne_eq,Int.ofNat_inj]
      exact fun h=>hcc (UInt8.toNat_inj.1 h)
     have r0:=HBAD.out (not_prefix (k:=k) hk4 (.inr ⟨by rw[HUL.out];exact hku,by rw[←HCA.out,←HCB.out];exact hcc⟩))
     obtain⟨rfl,rfl⟩:=r0
     go_upto_region 8 with fail
     go_quiet (fail)
     go_wp2_with fail
     refine bodyPost_ret (v:=.tuple #[.slice none 0 0,.int .i64 10]) (by simp[results,Tryz.results46,go_sem]) rfl ⟨_,rfl,OwnP.nil (N2.out.drewN _)⟩
   ·have hd1:decide ((ul:Int)≤(k:Int))=true:=by simp;omega
    have hd2:decide (ul≤k)=true:=by simp;omega
    have r0:=HBAD.out (not_prefix (k:=k) hk4 (.inl (by rw[HUL.out];omega)))
    obtain⟨rfl,rfl⟩:=r0
    go_upto_region 8 with fail
    go_quiet (fail)
    go_wp2_with fail
    refine bodyPost_ret (v:=.tuple #[.slice none 0 0,.int .i64 10]) (by simp[results,Tryz.results46,go_sem]) rfl ⟨_,rfl,OwnP.nil (N2.out.drewN _)⟩
  ·obtain rfl:k=4:=by omega
   have hpre:magicS <+: u:=take_eq_prefix HTK.out rfl (by rw[HUL.out];omega)
   have hr:=HR.out hpre
   have B2:=zH (B1.out.nw (NL.out.trans HW.out))
   have NN2:=zH (NL.out.trans HW.out)
   clear hpre HBAD HR HTK EL ML HW B1 NL hk4 hk
   have hno:¬ ((4:Int)<4):=by omega
   have C1:=zH (HGU.out _ _ B2.out)
   clear HGU
   by_cases c3:e0=0
   case neg =>
    have q1:(e0 !=0)=true:=by simpa using c3
    rw[if_pos c3]at hr
    obtain⟨rfl,rfl⟩:[]=r∧10=e:=by simpa using hr
    clear hr HF
    go_wp2_with fail
    refine C1.out.mono ?_
    rintro z w3 ⟨rfl,n3⟩
    have N3:=zH (N2.out.trans n3)
    clear n3
    go_wp2_with fail
    refine bodyPost_ret (v:=.tuple #[.slice none 0 0,.int .i64 10]) (by simp[results,Tryz.results46,go_sem]) rfl ⟨_,rfl,OwnP.nil N3.out⟩
   subst c3
   obtain⟨-,f1,f2,f3⟩:=HF.out rfl
   rw[if_neg (by simp)]at hr
   obtain⟨E,hE⟩:=zN (pcsFrom u n0 x0 [])
   rw[hE]at hr
   have HE:=zH hE
   have HR:=zH hr
   rw[HUL.out]at f2
   clear hr hE HF
   go_wp2_with fail
   refine C1.out.mono ?_
   rintro z w3 ⟨rfl,n3⟩
   have N3:=zH (N2.out.trans n3)
   have B3:=zH (B2.out.nw n3)
   clear n3 C1 B2 NN2 N2
   have hn64:n0<18446744073709551616:=by omega
   go_wp2_with fail
   go_loopw [9,10,11] (fun av sv iv wr=>∃(k cnt:Nat) (at_:Int) (acc:List Pc),iv=.int .u64 k∧k≤n0∧av=.int .i64 at_∧0≤at_∧at_≤ul∧pcsFrom u (n0-k) at_ acc=E∧Vec 4 wr sv cnt (acc.flatMap pcV)∧acc.length=cnt∧(cnt:Int)≤at_∧(∀q∈acc,q.Ok)∧Nw w wr∧Nw w3 wr∧∀g,sv.ownBlock=some g→w3.heap.size≤g) (fun _ _ iv _=>n0-(intOf iv).toNat)
   case atStart=>exact⟨0,0,x0,[],rfl,by omega,rfl,by omega,f2,HE.out,Vec.nil,rfl,by omega,(fun q hq=>by cases hq),N3.out,Nw.refl _,fun g hg=>by cases hg⟩
   case round =>
    obtain⟨k,cnt,at_,acc,rfl,hk,rfl,ha0,ha1,hE1,hs,hcnt,hcl,hok,hw,hw3,hfr⟩:=hrel
    obtain⟨sa,sc,rfl,-⟩:=hs.len
    have HS:=zH (And.intro hs (And.intro hw hfr))
    have HE1:=zH hE1
    have HC:=zH hcnt
    have HOK:=zH hok
    have HW3:=zH hw3
    have B4:=zH (B3.out.nw hw3)
    clear hs hw hfr hE1 hcnt hok hw3
    by_cases hkn:k<n0
    ·obtain⟨m',hm'⟩:∃m',n0-k=m'+1:=⟨n0-k-1,by omega⟩
     have HM:Hid (n0-(k+1)=m'):=zH (by omega)
     obtain⟨y,hy⟩:=zN (pieceR u at_)
     have HNO:Hid (pieceR u at_=none→[]=r∧10=e):=zH (fun h=>by
      have rr:=HE1.out
      rw[hm',pcsFrom_none h]at rr
      have r2:=HR.out
      rw[←rr]at r2
      simpa using r2)
     have HSO:Hid (∀p x,pieceR u at_=some (p,x)→pcsFrom u m' x (acc++[p])=E):=zH (fun p x h=>by
      have rr:=HE1.out
      rw[hm',pcsFrom_some h]at rr
      exact rr)
     obtain⟨⟨nm,x1,e1⟩,hb⟩:=zN (getB u at_ 40)
     have HB:=zH (rGetBlob_ok (B4.out) (by rw[HUL.out];omega) at_ 40 (by omega) (by omega) (by omega) (by omega) hb)
     have hbf:e1=0→0≤x1∧x1≤ul:=fun h0=>by
      unfold getB at hb
      split at hb
      ·rename_i hx;cases hb;exact absurd h0 hx
      ·rename_i h1
       have:=getU_fine (b:=u) (at_:=at_) (by rcases Decidable.em ((getU u at_).2.2=0) with h|h;exact h;exact absurd h h1)
       rw[HUL.out]at this hb
       split at hb
       ·cases hb;cases h0
       ·split at hb
        ·cases hb;cases h0
        ·cases hb;omega
     have hyy:=hy
     unfold pieceR at hyy
     rw[hb]at hyy
     simp only at hyy
     rw[HUL.out]at hyy
     have HY:=zH hy
     have q5:decide ((k:Int)<(n0:Int))=true:=by simp;omega
     clear hy hb hm'
     by_cases c1:e1=0
     case neg =>
      have q1:(e1 !=0)=true:=by simpa using c1
      rw[if_pos c1]at hyy
      subst hyy
      obtain⟨rfl,rfl⟩:=HNO.out HY.out
      clear hbf
      go_wp2_with fail
      refine HB.out.mono ?_
      rintro z w4 ⟨v4,rfl,-,n4⟩
      have N4:=zH (HS.out.2.1.trans n4)
      clear n4
      go_wp2_with fail
      refine bodyPost_ret (v:=.tuple #[.slice none 0 0,.int .i64 10]) (by simp[results,Tryz.results46,go_sem]) rfl ⟨_,rfl,OwnP.nil N4.out⟩
     subst c1
     obtain⟨g0,g1⟩:=hbf rfl
     rw[if_neg (by simp)]at hyy
     obtain⟨⟨fn,x2,e2⟩,hu⟩:=zN (getU u x1)
     have hf2:=getU_fine (b:=u) (at_:=x1)
     rw[hu]at hyy hf2
     rw[HUL.out]at hf2
     simp only at hyy hf2
     have HU1:=zH (fun W v (hb:Bs W v u)=>rGetUint_ok hb (by rw[HUL.out];omega) x1 (by omega) (by omega) hu)
     clear hbf hu
     go_wp2_with fail
     refine HB.out.mono ?_
     rintro z w4 ⟨v4,rfl,b4,n4⟩
     obtain⟨na,nc,rfl,-⟩:=b4.len
     obtain⟨nl,hnl⟩:=zN (nm.length)
     rw[hnl]at b4 ⊢
     have BN:=zH b4
     have N4:=zH n4
     have B5:=zH (B4.out.nw n4)
     clear b4 n4 HB hnl
     have C2:=zH (HU1.out _ _ B5.out)
     clear HU1
     go_wp2_with fail
     refine C2.out.mono ?_
     rintro z w5 ⟨rfl,n5⟩
     have N5:=zH (N4.out.trans n5)
     have BN5:=zH (BN.out.nw n5)
     have B6:=zH (B5.out.nw n5)
     clear n5 C2 BN N4 B5
     go_upto_region 21 with fail
     go_cut [79] (fun t wx=>t=.bool (decide (e2≠0∨4611686018427387904<fn))∧wx=w5)
     case first =>
      by_cases c2:e2=0
      ·subst c2
       have hd:((4611686018427387904:Int)<(fn:Int))↔4611686018427387904<fn:=by omega
       go_wp2_with fail
       go_meet
       case rel=>exact⟨by simp,rfl⟩
      ·have q1:(e2 !=0)=true:=by simpa using c2
       go_wp2_with fail
       go_meet
       case rel=>exact⟨by simp[c2],rfl⟩
     case rest =>
      obtain⟨rfl,rfl⟩:=hcut
      by_cases c2:e2≠0∨4611686018427387904<fn
      ·have q1:decide (e2≠0∨4611686018427387904<fn)=true:=by simpa using c2
       rw[if_pos c2]at hyy
       subst hyy
       obtain⟨rfl,rfl⟩:=HNO.out HY.out
       rw[q1]
       clear q1 c2 hf2
       go_wp2_with fail
       refine bodyPost_ret (v:=.tuple #[.slice none 0 0,.int .i64 10]) (by simp[results,Tryz.results46,go_sem]) rfl ⟨_,rfl,OwnP.nil (HS.out.2.1.trans N5.out)⟩
      have q1:decide (e2≠0∨4611686018427387904<fn)=false:=by simpa using c2
      rw[if_neg c2]at hyy
      rw[q1]
      simp only[not_or,Decidable.not_not]at c2
      obtain⟨c2,c3⟩:=c2
      subst c2
      obtain⟨-,g2,g3,g4⟩:=hf2 rfl
      obtain⟨⟨cn,x3,e3⟩,hu⟩:=zN (getU u x2)
      have hf3:=getU_fine (b:=u) (at_:=x2)
      rw[hu]at hyy hf3
      rw[HUL.out]at hf3
      simp only at hyy hf3
      have C3:=zH (rGetUint_ok B6.out (by rw[HUL.out];omega) x2 (by omega) (by omega) hu)
      clear hu hf2 q1
      go_wp2_with fail
      refine C3.out.mono ?_
      rintro z w6 ⟨rfl,n6⟩
      have N6:=zH (N5.out.trans n6)
      have BN6:=zH (BN5.out.nw n6)
      have B7:=zH (B6.out.nw n6)
      clear n6 C3 BN5 N5 B6
      obtain⟨D,hD⟩:=zN (u.getD x3.toNat 0)
      rw[hD]at hyy
      have HCELL:Hid (e3=0→x3≠ul→∃(k3:Nat) (g o:Nat),x3=k3∧k3<ul∧xa=some ⟨g,o,none⟩∧g<w6.heap.size∧w6.cell? ⟨g,o+k3,none⟩=some (.int .u8 (D.toNat:Int))):=zH (fun h0 h1=>by
       obtain⟨-,g5,g6,g7⟩:=hf3 h0
       obtain⟨k3,rfl⟩:∃k:Nat,x3=k:=⟨x3.toNat,by omega⟩
       have hk3:k3<u.length:=by rw[HUL.out];omega
       obtain⟨ya,yc,hye,-,-,hyl⟩:=B7.out.elems
       obtain⟨g,o,h2,h3,h4⟩:=hyl k3 hk3
       cases hye
       refine⟨k3,g,o,rfl,by omega,h2,h3,?_⟩
       have hget:u.getD (k3:Int).toNat 0=u[k3]:=by simp[List.getD,hk3]
       rw[hget]at hD
       rw[←hD]
       exact h4)
      clear hD
      go_upto_region 24 with fail
      go_cut [105] (fun t wx=>t=.bool (decide (e3≠0∨4611686018427387904<cn∨x3=(ul:Int)∨1<D.toNat))∧wx=w6)
      case first =>
       by_cases d1:e3=0
       case neg =>
        have q1:(e3 !=0)=true:=by simpa using d1
        go_wp2_with fail
        go_meet
        case rel=>exact⟨by simp[d1],rfl⟩
       subst d1
       by_cases d2:4611686018427387904<cn
       ·have q1:decide ((4611686018427387904:Int)<(cn:Int))=true:=by simp;omega
        go_wp2_with fail
        go_meet
        case rel=>exact⟨by simp[d2],rfl⟩
       have q1:decide ((4611686018427387904:Int)<(cn:Int))=false:=by simp;omega
       by_cases d3:x3=(ul:Int)
       ·have q2:(x3==(ul:Int))=true:=by simpa using d3
        have D3:=zH d3
        clear d3
        go_wp2_with fail
        go_meet
        case rel=>exact⟨by simp[D3.out],rfl⟩
       have q2:(x3==(ul:Int))=false:=by simpa using d3
       obtain⟨k3,pg,po,rfl,hk3,rfl,hpg,hcell⟩:=HCELL.out rfl d3
       clear HCELL
       have hdd:((1:Int)<(D.toNat:Int))↔1<D.toNat:=by omega
       go_wp2_with fail
       go_meet
       case rel=>exact⟨by simp[d2,d3],rfl⟩
      case rest =>
       obtain⟨rfl,rfl⟩:=hcut
       by_cases c4:e3≠0∨4611686018427387904<cn∨x3=(ul:Int)∨1<D.toNat
       ·have q1:decide (e3≠0∨4611686018427387904<cn∨x3=(ul:Int)∨1<D.toNat)=true:=by simpa using c4
        rw[if_pos c4]at hyy
        subst hyy
        obtain⟨rfl,rfl⟩:=HNO.out HY.out
        rw[q1]
        clear q1 c4 hf3 HCELL
        go_wp2_with fail
        refine bodyPost_ret (v:=.tuple #[.slice none 0 0,.int .i64 10]) (by simp[results,Tryz.results46,go_sem]) rfl ⟨_,rfl,OwnP.nil (HS.out.2.1.trans N6.out)⟩
       have q1:decide (e3≠0∨4611686018427387904<cn∨x3=(ul:Int)∨1<D.toNat)=false:=by simpa using c4
       rw[if_neg c4]at hyy
       rw[q1]
       simp only[not_or,Decidable.not_not]at c4
       obtain⟨d1,d2,d3,d4⟩:=c4
       subst d1
       obtain⟨k3,pg,po,rfl,hk3,rfl,hpg,hcell⟩:=HCELL.out rfl d3
       obtain⟨pd,hpd⟩:=zN (decide (D=1))
       rw[hpd]at hyy
       subst hyy
       have HSO2:=zH (HSO.out _ _ HY.out)
       obtain⟨-,j2,j3,j4⟩:=pieceR_fine HY.out
       have HPK:=zH j4
       have hcnt:cnt≤14000000:=by omega
       have HD:Hid (((D.toNat:Int)==1)=pd):=zH (by
        rw[←hpd]
        by_cases h:D=1
        ·subst h;rfl
        ·have:¬ ((D.toNat:Int)=1):=fun h2=>by
          have h3:D.toNat=1:=by omega
          exact h (UInt8.toNat_inj.1 (by simpa using h3))
         simp[h,this])
       clear q1 hf3 HCELL HNO HSO HY hpd j4 d4 HE1
       go_wp2_with fail
       go_upto_region 26 with fail
       refine dListed.r26 (x1:=(fn:Int)) (y1:=(cn:Int)) (cb:=(D.toNat:Int)) (pd:=pd) (cs:=acc.flatMap pcV) (nm:=nm) (zH (HS.out.1.nw N6.out)) BN6 (zH hcell) (zH hpg) (zH hk3) HD (zH (IntWalk.i64_in _ (by omega))) (zH (IntWalk.i64_in _ (by omega))) (by omega) (fun _ _ _ _ _ h=>h) ?_
       intro s106 s107 s108 s109 s110 s111 s112 s113 s114 s115 s116 s117 s118 s119 s120 s10 ta tc w7 hs10 q5 q6 q7
       subst hs10
       have Q:=zH (And.intro q5 (And.intro q6 q7))
       have hwk:IntKind.i64.wrap ((k3:Int)+1)=(k3:Int)+1:=IntWalk.i64_in _ (by omega)
       have hwu:IntKind.u64.wrap ((k:Int)+1)=((k+1:Nat):Int):=by rw[←Int.natCast_one,←Int.natCast_add];exact Go.wraps_u64 _ (by omega) (by omega)
       have hmm:((k:Int)+1) % 18446744073709551616=((k+1:Nat):Int):=by omega
       clear q5 q6 q7 hcell hpg
       go_wp2_with fail
       go_roundw
       case rel =>
        have hnw:Nw w w7:=((HS.out.2.1.trans N6.out)).trans' Q.out.2.1 (fun g hg hc=>by have h1:=HS.out.2.2 g hc;have h2:=N3.out.size;omega)
        have hnw3:Nw w3 w7:=((HW3.out.trans N6.out)).trans' Q.out.2.1 (fun g hg hc=>by have h1:=HS.out.2.2 g hc;omega)
        refine⟨k+1,cnt+1,(k3:Int)+1,acc++[_],by first|rfl|(simp;done)|go_num,by omega,by first|rfl|(simp;done)|go_num,by omega,by omega,by rw[HM.out];exact HSO2.out,?_,by rw[List.length_append,HC.out];rfl,by omega,?_,hnw,hnw3,fun g hg=>?_⟩
        ·rw[List.flatMap_append,List.flatMap_singleton]
         exact Q.out.1
        ·intro q hq
         rcases List.mem_append.1 hq with hq|hq
         ·exact HOK.out q hq
         ·rw[List.mem_singleton]at hq;subst hq;exact HPK.out
        ·rcases Q.out.2.2 with h|h
         ·exact HS.out.2.2 g (h▸hg)
         ·have h1:=h g hg
          have h2:=(HW3.out.trans N6.out).size
          exact Nat.le_trans h2 h1
       case measure=>simp only[intOf];omega
    ·obtain rfl:k=n0:=by omega
     have rr:=HE1.out
     rw[Nat.sub_self]at rr
     unfold pcsFrom at rr
     have r2:=HR.out
     rw[←rr,HUL.out]at r2
     simp only at r2
     have h0:=N3.out.size
     have hown:OwnP w wr (.slice sa cnt sc) acc:=⟨by rw[HC.out];exact HS.out.1,HOK.out,HS.out.2.1,fun g hg=>by have:=HS.out.2.2 g hg;omega⟩
     have HOWN:=zH hown
     have HRT:=zH (dRight_ok hown.pcs)
     have hno2:decide ((k:Int)<(k:Int))=false:=by simp
     clear rr hown h0
     by_cases hlt:at_<(ul:Int)
     ·have q6:decide (at_<(ul:Int))=true:=by simpa using hlt
      rw[if_pos hlt]at r2
      obtain⟨rfl,rfl⟩:[]=r∧10=e:=by simpa using r2
      clear r2
      go_wp2_with fail
      refine bodyPost_ret (v:=.tuple #[.slice none 0 0,.int .i64 10]) (by simp[results,Tryz.results46,go_sem]) rfl ⟨_,rfl,OwnP.nil HS.out.2.1⟩
     have q6:decide (at_<(ul:Int))=false:=by simpa using hlt
     rw[if_neg hlt]at r2
     cases hrt:rightL acc
     case false =>
      rw[hrt]at r2 HRT
      obtain⟨rfl,rfl⟩:[]=r∧14=e:=by simpa using r2
      clear r2
      go_wp2_with fail
      refine HRT.out.mono ?_
      rintro z w4 ⟨rfl,n4⟩
      have N4:=zH (HS.out.2.1.trans n4)
      clear n4
      go_wp2_with fail
      refine bodyPost_ret (v:=.tuple #[.slice none 0 0,.int .i64 14]) (by simp[results,Tryz.results46,go_sem]) rfl ⟨_,rfl,OwnP.nil N4.out⟩
     case true =>
      rw[hrt]at r2 HRT
      obtain⟨rfl,rfl⟩:acc=r∧0=e:=by simpa using r2
      clear r2
      go_wp2_with fail
      refine HRT.out.mono ?_
      rintro z w4 ⟨rfl,n4⟩
      have O4:=zH (HOWN.out.nw n4)
      clear n4
      go_wp2_with fail
      refine bodyPost_ret (v:=.tuple #[.slice sa cnt sc,.int .i64 0]) (by simp[results,Tryz.results46,go_sem]) rfl ⟨_,rfl,O4.out⟩
theorem OwnE.nil {w w':World}(hw:Nw w w'):OwnE w w' (.slice none 0 0) []:=⟨Vec.nil,hw,fun g hg=>by cases hg⟩
theorem dRead_ok {w:World}{v:Value}{l:List UInt8}(hv:Bs w v l) (hl:l.length≤14000000) (at_:Int) (ha:in64 at_){r:List Ev}{x e:Int}(hr:readFr l at_=(r,x,e)) :
  Calls Tryz.prog 100 #[v,.int .i64 at_] w fun z w'=>∃v',z=.returned (.tuple #[v',.int .i64 x,.int .i64 e])∧OwnE w w' v' r:=by
 obtain⟨a,cap,rfl,hcap,-,hel⟩:=hv.elems
 obtain⟨⟨n,y,e0⟩,hu⟩:=zN (getU l at_)
 have HU:=zH (rGetUint_ok hv hl at_ ha.1 ha.2 hu)
 have hf:=getU_fine (b:=l) (at_:=at_)
 unfold readFr frameIn at hr
 rw[hu]at hf hr
 simp only at hf hr
 obtain⟨ul,hul⟩:=zN (l.length)
 have EL:=zH (fun i (hi:i<l.length)=>hel i hi)
 rw[hul]at hl hcap HU hv hf hr ⊢
 have HUL:=zH hul
 have HV:=zH hv
 clear hv hu ha hel hul
 by_cases c0:e0=0
 case neg =>
  have q1:(e0 !=0)=true:=by simpa using c0
  rw[if_pos c0]at hr
  obtain⟨rfl,rfl,rfl⟩:[]=r∧0=x∧e0=e:=by simpa using hr
  clear HV hf hr
  go_enter Tryz.func100,Tryz.ntmps100
  go_wp2_with fail
  refine HU.out.mono ?_
  rintro z w1 ⟨rfl,n1⟩
  go_wp2
  refine bodyPost_ret (v:=.tuple #[.slice none 0 0,.int .i64 0,.int .i64 e0]) (by simp[results,Tryz.results100,go_sem]) rfl ⟨_,rfl,OwnE.nil n1⟩
 subst c0
 obtain⟨f0,f1,f2,f3⟩:=hf rfl
 rw[if_neg (by simp)]at hr
 clear hf
 obtain⟨k,rfl⟩:∃k:Nat,y=k:=⟨y.toNat,by omega⟩
 by_cases c1:262144<n
 ·have q1:decide ((262144:Int)<(n:Int))=true:=by simp;omega
  rw[if_pos c1]at hr
  obtain⟨rfl,rfl,rfl⟩:[]=r∧0=x∧3=e:=by simpa using hr
  clear HV hr
  go_enter Tryz.func100,Tryz.ntmps100
  go_wp2_with fail
  refine HU.out.mono ?_
  rintro z w1 ⟨rfl,n1⟩
  go_wp2
  refine bodyPost_ret (v:=.tuple #[.slice none 0 0,.int .i64 0,.int .i64 3]) (by simp[results,Tryz.results100,go_sem]) rfl ⟨_,rfl,OwnE.nil n1⟩
 rw[if_neg c1]at hr
 have q1:decide ((262144:Int)<(n:Int))=false:=by simp;omega
 have hwn:IntKind.i64.wrap (n:Int)=(n:Int):=IntWalk.i64_in _ (by omega)
 have hadd:IntKind.i64.wrap ((n:Int)+4)=(n:Int)+4:=IntWalk.i64_in _ (by omega)
 have hsub:IntKind.i64.wrap ((ul:Int)-(k:Int))=(ul:Int)-(k:Int):=IntWalk.i64_in _ (by omega)
 by_cases c2:(ul:Int)<(k:Int)+(n:Int)+4
 ·have q2:decide ((ul:Int)-(k:Int)<(n:Int)+4)=true:=by simp;omega
  rw[if_pos c2]at hr
  obtain⟨rfl,rfl,rfl⟩:[]=r∧0=x∧11=e:=by simpa using hr
  clear HV hr
  go_enter Tryz.func100,Tryz.ntmps100
  go_wp2_with fail
  refine HU.out.mono ?_
  rintro z w1 ⟨rfl,n1⟩
  go_wp2
  refine bodyPost_ret (v:=.tuple #[.slice none 0 0,.int .i64 0,.int .i64 11]) (by simp[results,Tryz.results100,go_sem]) rfl ⟨_,rfl,OwnE.nil n1⟩
 rw[if_neg c2]at hr
 have q2:decide ((ul:Int)-(k:Int)<(n:Int)+4)=false:=by simp;omega
 simp only[Int.toNat_natCast]at hr
 rw[unseal_mid (by rw[HUL.out];omega)]at hr
 obtain⟨a2,c2',hb2,hl2,t1,t2⟩:=bs_lh HV.out k (k+n) (by omega) (by omega)
 rw[show k+n-k=n by omega]at hb2 hl2 t1 t2
 rw[show ((k+n:Nat):Int)=(k:Int)+(n:Int) by omega]at t1 t2
 have hw1:IntKind.i64.wrap ((k:Int)+(n:Int))=(k:Int)+(n:Int):=IntWalk.i64_in _ (by omega)
 obtain⟨B,hB⟩:=zN ((l.drop k).take n)
 rw[hB]at hb2 hl2 hr
 have S:=rSeal_ok hb2 (by omega)
 have HBL:=zH hl2
 have HB2:=zH hb2
 have HRR:=zH hr
 have SL:=zH (fun (W:World) (hW:Nw w W)=>rSeal_ok (hb2.nw hW) (by omega))
 clear hb2 hl2 hB hr S
 go_enter Tryz.func100,Tryz.ntmps100
 go_wp2_with fail
 refine HU.out.mono ?_
 rintro z w1 ⟨rfl,n1⟩
 have N1:=zH n1
 clear n1 HU
 go_wp2_with fail
 refine (SL.out w1 N1.out).mono ?_
 rintro z w2 ⟨v2,rfl,b2,n2,-⟩
 have b2:=Vec.rd (f:=Go.Proofs.YtkbenkldfehhlaaGreatDoor.u8) b2
 obtain⟨ya,yc,rfl,hyc,-,hel2⟩:=b2.elems
 have hsl:(sealB sumB B).length=n+4:=by simp only[sealB,List.length_append,sumB_len,HBL.out]
 have EL2:=zH (fun i (hi:i<(sealB sumB B).length)=>hel2 i hi)
 have HSL:=zH hsl
 rw[hsl]at hyc ⊢
 have N2:=zH (N1.out.trans n2)
 clear n2 b2 hel2 hsl SL N1 t1 t2
 go_wp2
 go_loopw [12] (fun iv wr=>∃j:Nat,j≤4∧iv=.int .i64 j∧(sumB B).take j=((l.drop (k+n)).take 4).take j∧Nw w2 wr) (fun iv _=>4-(intOf iv).toNat)
 case atStart=>exact⟨0,by omega,rfl,rfl,Nw.refl _⟩
 case round =>
  obtain⟨j,hj,rfl,htj,hw⟩:=hrel
  have HTJ:=zH htj
  have HW:=zH hw
  clear htj hw
  by_cases hj4:j<4
  ·have q0:decide ((j:Int)<4)=true:=by simp;omega
   have hjs:n+j<(sealB sumB B).length:=by rw[HSL.out];omega
   have hjl:k+n+j<l.length:=by rw[HUL.out];omega
   obtain⟨mg,mo,rfl,hmg,hmc⟩:=EL2.out (n+j) hjs
   have z1:=HW.out.cell hmc
   have hmg':=Nat.lt_of_lt_of_le hmg HW.out.size
   obtain⟨cb,hcb⟩:∃cb:UInt8,cb=(sealB sumB B)[n+j]'hjs:=⟨_,rfl⟩
   rw[←hcb]at z1
   have HCB:Hid ((sumB B)[j]? = some cb):=zH (by
    have h1:(sealB sumB B)[n+j]? = some cb:=by rw[hcb,List.getElem?_eq_getElem hjs]
    unfold sealB at h1
    rw[List.getElem?_append_right (by rw[HBL.out];omega),HBL.out,Nat.add_sub_cancel_left]at h1
    exact h1)
   clear hmc hmg hcb
   change World.cell? _ _=some (.int .u8 (cb.toNat:Int)) at z1
   obtain⟨ug,uo,rfl,hug,huc⟩:=EL.out (k+n+j) hjl
   have z2:=((N2.out.trans HW.out).cell huc)
   have hug':=Nat.lt_of_lt_of_le hug (N2.out.trans HW.out).size
   obtain⟨ca,hca⟩:∃ca:UInt8,ca=l[k+n+j]'hjl:=⟨_,rfl⟩
   rw[←hca]at z2
   have HCA:Hid (((l.drop (k+n)).take 4)[j]? = some ca):=zH (by
    rw[List.getElem?_take_of_lt hj4,List.getElem?_drop,hca,List.getElem?_eq_getElem hjl])
   clear huc hug hca hjs hjl
   change World.cell? _ _=some (.int .u8 (ca.toNat:Int)) at z2
   rw[show ug=ug from rfl]at z2
   have hx1:IntKind.i64.wrap ((n:Int)+(j:Int))=((n+j:Nat):Int):=by rw[←Int.natCast_add];exact IntWalk.i64_in _ (by omega)
   have hx2:IntKind.i64.wrap ((k:Int)+(n:Int))=((k+n:Nat):Int):=by rw[←Int.natCast_add];exact IntWalk.i64_in _ (by omega)
   have hx3:IntKind.i64.wrap (((k+n:Nat):Int)+(j:Int))=((k+n+j:Nat):Int):=by rw[←Int.natCast_add];exact IntWalk.i64_in _ (by omega)
   have hl1:((n+j:Nat):Int)<((n+4:Nat):Int):=by omega
   have hl2:((k+n+j:Nat):Int)<(ul:Int):=by omega
   have hl1':n+j<n+4:=by omega
   have hl2':k+n+j<ul:=by omega
   by_cases hcc:cb=ca
   ·have heq:((cb.toNat:Int)!=(ca.toNat:Int))=false:=by rw[hcc];simp
    have hsnoc:Hid ((sumB B).take (j+1)=((l.drop (k+n)).take 4).take (j+1)):=zH (by
     rw[List.take_add_one,List.take_add_one,HTJ.out,HCB.out,HCA.out,hcc])
    have hwk:IntKind.i64.wrap ((j:Int)+1)=((j+1:Nat):Int):=by rw[←Int.natCast_one,←Int.natCast_add];exact IntWalk.i64_in _ (by omega)
    clear hcc
    go_upto_region 13 with fail
    go_quiet (fail)
    go_wp2_with fail
    go_roundw
    case rel=>exact⟨j+1,by omega,by first|rfl|(simp;done)|rw[hwk],hsnoc.out,HW.out.drewN _⟩
    case measure=>simp only[intOf];omega
   ·have hne:((cb.toNat:Int)!=(ca.toNat:Int))=true:=by
     simp only[bne_iff_ne,ne_eq,Int.ofNat_inj]
     exact fun h=>hcc (UInt8.toNat_inj.1 h)
    have hno:¬ sumB B=(l.drop (k+n)).take 4:=fun h=>by
     have h1:=HCB.out
     rw[h,HCA.out]at h1
     exact hcc (Option.some.inj h1).symm
    have hr:=HRR.out
    rw[if_neg hno,if_pos (by simp)]at hr
    cases hr
    have NN:=zH (N2.out.trans HW.out)
    clear hno
    go_upto_region 13 with fail
    go_quiet (fail)
    go_wp2_with fail
    refine bodyPost_ret (v:=.tuple #[.slice none 0 0,.int .i64 0,.int .i64 12]) (by simp[results,Tryz.results100,go_sem]) rfl ⟨_,rfl,OwnE.nil (NN.out.drewN _)⟩
  obtain rfl:j=4:=by omega
  have q0:¬ ((4:Int)<4):=by omega
  have hyes:sumB B=(l.drop (k+n)).take 4:=by
   have h1:=HTJ.out
   rw[List.take_of_length_le (by rw[sumB_len];omega),List.take_take]at h1
   exact h1
  have hr:=HRR.out
  rw[if_pos hyes,if_neg (by simp)]at hr
  have NN:=zH (N2.out.trans HW.out)
  have B3:=zH (HB2.out.nw NN.out)
  clear HRR HTJ HW hj4 hj hyes EL2 EL N2 HV
  obtain⟨⟨m,k0,e1⟩,hu1⟩:=zN (getU B 0)
  have C1:=zH (rGetUint_ok B3.out (by rw[HBL.out];omega) 0 (by omega) (by omega) hu1)
  have hf1:=getU_fine (b:=B) (at_:=0)
  rw[hu1,HBL.out]at hf1
  simp only at hf1
  obtain⟨⟨es,ok⟩,hev⟩:=zN (eventsB B)
  rw[hev]at hr
  simp only at hr
  unfold eventsB at hev
  rw[hu1,HBL.out]at hev
  simp only at hev
  by_cases d1:e1=0
  case neg =>
   have q1:(e1 !=0)=true:=by simpa using d1
   rw[if_pos (.inl d1)]at hev
   cases hev
   rw[if_neg (by decide)]at hr
   cases hr
   clear hf1
   go_wp2_with fail
   refine C1.out.mono ?_
   rintro z w3 ⟨rfl,n3⟩
   have N3:=zH (NN.out.trans n3)
   clear n3
   go_wp2
   refine bodyPost_ret (v:=.tuple #[.slice none 0 0,.int .i64 0,.int .i64 10]) (by simp[results,Tryz.results100,go_sem]) rfl ⟨_,rfl,OwnE.nil N3.out⟩
  subst d1
  obtain⟨-,g1,g2,g3⟩:=hf1 rfl
  clear hf1
  by_cases d2:m<1
  ·have q3:decide ((m:Int)<1)=true:=by simp;omega
   rw[if_pos (.inr (.inl d2))]at hev
   cases hev
   rw[if_neg (by decide)]at hr
   cases hr
   go_wp2_with fail
   refine C1.out.mono ?_
   rintro z w3 ⟨rfl,n3⟩
   have N3:=zH (NN.out.trans n3)
   clear n3
   go_wp2
   refine bodyPost_ret (v:=.tuple #[.slice none 0 0,.int .i64 0,.int .i64 10]) (by simp[results,Tryz.results100,go_sem]) rfl ⟨_,rfl,OwnE.nil N3.out⟩
  have q3:decide ((m:Int)<1)=false:=by simp;omega
  by_cases d3:4096<m
  ·have q4:decide ((4096:Int)<(m:Int))=true:=by simp;omega
   rw[if_pos (.inr (.inr d3))]at hev
   cases hev
   rw[if_neg (by decide)]at hr
   cases hr
   go_wp2_with fail
   refine C1.out.mono ?_
   rintro z w3 ⟨rfl,n3⟩
   have N3:=zH (NN.out.trans n3)
   clear n3
   go_wp2
   refine bodyPost_ret (v:=.tuple #[.slice none 0 0,.int .i64 0,.int .i64 10]) (by simp[results,Tryz.results100,go_sem]) rfl ⟨_,rfl,OwnE.nil N3.out⟩
  have q4:decide ((4096:Int)<(m:Int))=false:=by simp;omega
  rw[if_neg (by omega)]at hev
  obtain⟨E,hE⟩:=zN (evsFrom B m k0 Ev.zero [])
  have hbd:=evsFrom_bound (b:=B) m k0 Ev.zero []
  rw[hE]at hev hbd
  have HR:=zH hr
  have HEV:=zH hev
  have HBD:=zH hbd
  have HE:=zH hE
  obtain⟨i0,hi,hz0,hz1,hz2⟩:=info_parts infoEv
  have HI:=zH hi
  have HZ0:=zH hz0
  have HZ1:=zH hz1
  have HZ2:=zH hz2
  have hwm:IntKind.i64.wrap (m:Int)=(m:Int):=IntWalk.i64_in _ (by omega)
  clear hr hev hE hi hz0 hz1 hz2 hbd
  go_wp2_with fail
  refine C1.out.mono ?_
  rintro z w3 ⟨rfl,n3⟩
  have N3:=zH (NN.out.trans n3)
  have B4:=zH (B3.out.nw n3)
  have HZB:=zH (heap_alloc_new w3 (.cells (evV Ev.zero).toArray 87 (0,0)))
  have HZN:=zH ((Nw.refl w3).alloc (.cells (evV Ev.zero).toArray 87 (0,0)))
  obtain⟨p,hp⟩:=zN (w3.heap.size)
  have HWP:Hid (w.heap.size≤p):=zH (by have:=N3.out.size;omega)
  rw[hp]at HZB
  clear n3 C1 B3 NN
  go_upto_region 20 with fail
  rw[show (Obj.cells #[.int .i64 0,.int .u8 0,.int .i64 0,.int .i64 0,.int .i64 0] 87)=.cells (evV Ev.zero).toArray 87 (0,0) from rfl]
  generalize w3.alloc (.cells (evV Ev.zero).toArray 87 (0,0))=w4 at HZB HZN ⊢
  (try rw[hp])
  have N4:=zH (N3.out.trans HZN.out)
  have B5:=zH (B4.out.nw HZN.out)
  have HPL:Hid (p<w4.heap.size):=zH (lt_of_block HZB.out)
  clear hp N3 B4 HZN
  go_wp2
  go_loopw [14,15,17] (fun av s i wr=>∃(j:Nat) (at1:Int) (y:Ev) (acc:List Ev),j≤m∧i=.int .i64 j∧av=.int .i64 at1∧0≤at1∧at1≤n∧evsFrom B (m-j) at1 y acc=E∧Vec 5 wr s j (acc.flatMap evV)∧Nw w wr∧(∀g,s.ownBlock=some g→w.heap.size≤g∧g≠p) ∧
   wr.heap[p]? = some (.cells (evV y).toArray 87 (0,0))∧acc.length=j∧y.Ok) (fun _ _ i _=>m-(intOf i).toNat)
  case atStart=>exact⟨0,k0,Ev.zero,[],by omega,rfl,rfl,by omega,g2,by simpa using HE.out,Vec.nil,N4.out,(fun g hg=>by cases hg),HZB.out,rfl,zero_ok⟩
  case round =>
   obtain⟨j,at1,y,acc,hj,rfl,rfl,h0,h1,hE1,hs,hw,hfr,hbox,hacc,hyo⟩:=hrel
   clear HE HZB
   obtain⟨x0,x1,x2,x3,x4,-⟩:=evV_cells hbox
   have hbl:=lt_of_block hbox
   obtain⟨sa,sc,rfl,-⟩:=hs.len
   have HS:=zH (And.intro hs (And.intro hw (And.intro hfr hbox)))
   have HE:=zH hE1
   have HA:=zH hacc
   have HY:=zH hyo
   clear hs hw hfr hbox hE1 hacc hyo N4
   by_cases hlt:j<m
   ·have q5:decide ((j:Int)<(m:Int))=true:=by simp;omega
    obtain⟨⟨e1,p1,y1⟩,hg⟩:=zN (getE B at1 y)
    have C:=dGet_ok (HB2.out.nw HS.out.2.1) (by rw[HBL.out];omega) at1 ⟨by omega,by omega⟩ y HY.out hg
    have C:=zH C
    have HF:=zH (getE_fine (b:=B) (at_:=at1) (x:=y))
    have HG:=zH hg
    unfold evV at C
    clear hg
    have hun:evsFrom B (m-j) at1 y acc=if y1≠0 then none else evsFrom B (m-(j+1)) p1 e1 (acc++[e1]):=by
     rw[show m-j=(m-(j+1))+1 by omega]
     conv=>lhs;unfold evsFrom
     rw[HG.out]
    have hun:=hun.symm.trans HE.out
    have HUN:=zH hun
    clear hun HE
    go_wp2_with fail
    refine C.out.mono ?_
    rintro z w5 ⟨rfl,n5⟩
    have N5:=zH n5
    have NA:=zH ((Nw.refl w5).alloc (.cells (evV e1).toArray 87 (0,0)))
    have BA:=zH (heap_alloc_new w5 (.cells (evV e1).toArray 87 (0,0)))
    obtain⟨q,hq⟩:=zN (w5.heap.size)
    have HPQ:Hid (p<q):=zH (by have:=n5.size;omega)
    have HQW:Hid (wr.heap.size≤q):=zH (by have:=n5.size;omega)
    rw[hq]at BA
    clear n5 C x0 x1 x2 x3 x4
    go_upto_region 24 with fail
    unfold evV at NA BA
    generalize w5.alloc (.cells [.int .i64 e1.thread,.int .u8 e1.op.toNat,.int .i64 e1.obj,.int .i64 e1.a,.int .i64 e1.b].toArray 87 (0,0))=w6 at NA BA ⊢
    have N6:=zH (N5.out.trans NA.out)
    have S6:=zH (HS.out.1.nw N6.out)
    have P6:=zH (N6.out.at_ HS.out.2.2.2)
    have NW6:=zH (HS.out.2.1.trans N6.out)
    have Q6:Hid (w6.heap[q]? = some (.cells (evV e1).toArray 87 (0,0))):=zH BA.out
    have HQL:Hid (q<w6.heap.size):=zH (lt_of_block BA.out)
    clear hq NA BA N5 N6
    by_cases hy:y1=0
    case neg =>
     have q3:(y1 !=0)=true:=by simpa using hy
     have r1:=HUN.out
     rw[if_pos hy]at r1
     have r2:=HEV.out
     rw[←r1]at r2
     cases r2
     have r3:=HR.out
     rw[if_neg (by decide)]at r3
     cases r3
     clear r1 HUN HEV HR
     go_wp2
     refine bodyPost_ret (v:=.tuple #[.slice none 0 0,.int .i64 0,.int .i64 10]) (by simp[results,Tryz.results100,go_sem]) rfl ⟨_,rfl,OwnE.nil NW6.out⟩
    subst hy
    have r1:=HUN.out
    rw[if_neg (by simp)]at r1
    have HUN:=zH r1
    clear r1 hun
    have hfe:=HF.out (by rw[HG.out])
    rw[HG.out,HBL.out]at hfe
    simp only at hfe
    obtain⟨f5,f6,f7,f8⟩:=hfe
    have HO1:=zH f8
    clear f8 HF
    obtain⟨d0,d1,d2,d3,d4,-⟩:=evV_cells Q6.out
    have X6:=zH (src_lit w6 87 (0,0) 5 1 1 (evV e1) rfl (by omega) (by decide))
    have V6:=zH (S6.out.nw ((Nw.refl w6).alloc (.cells (evV e1).toArray 87 (0,0))))
    have hql:=HQL.out
    unfold evV at X6 V6
    go_wp2_with (at_builtin;refine wpList_append_vec rfl _ _ 31 rfl 87 i0 (.agg #[.int .i64 0,.int .u8 0,.int .i64 0,.int .i64 0,.int .i64 0]) 5 40 Tryz.underlying31 HI.out HZ0.out HZ1.out HZ2.out rfl (by decide) rfl rfl V6.out X6.out ?c1 ?c2 ?c3 ?_)
    case c1=>exact fun u hu=>by simp only[List.mem_cons,List.not_mem_nil,or_false]at hu;rcases hu with rfl|rfl|rfl|rfl|rfl <;> rfl
    case c2=>unfold maxLen;omega
    case c3=>omega
    intro v7 w7 q5 q6 q7
    obtain⟨ta,tc,rfl,-⟩:=q5.len
    have QQ:=zH (And.intro q5 (And.intro q6 q7))
    have hal:=(Nw.refl w6).alloc (.cells (evV e1).toArray 87 (0,0))
    have hsp:∀g,(Value.slice sa j sc).ownBlock=some g→g≠p∧g≠q:=fun g hg=>⟨(HS.out.2.2.1 g hg).2,fun e=>by have h1:=HS.out.1.lt g hg;have h2:=HQW.out;omega⟩
    have P7:=zH (q6.at_ (hal.at_ P6.out) (fun hc=>(hsp _ hc).1 rfl))
    have Q7:=zH (q6.at_ (hal.at_ Q6.out) (fun hc=>(hsp _ hc).2 rfl))
    have NW7:Hid (Nw w w7):=zH ((NW6.out.trans hal).trans' q6 (fun g hg hc=>by have:=(HS.out.2.2.1 g hc).1;omega))
    have HF7:Hid (∀g,(Value.slice ta (j+1) tc).ownBlock=some g→w.heap.size≤g∧g≠p):=zH (fun g hg=>by
     rcases q7 with h|h
     ·exact HS.out.2.2.1 g (h▸hg)
     ·have h1:=h g hg
      have h2:=hal.size
      have h3:=HQL.out
      have h4:=HPQ.out
      have h5:=HWP.out
      omega)
    clear q5 q6 q7 hal hsp d0 d1 d2 d3 d4 X6 V6
    obtain⟨d0,d1,d2,d3,d4,-⟩:=evV_cells Q7.out
    obtain⟨c0,c1,c2,c3,c4,cf⟩:=evV_cells P7.out
    have z0:=cf 0
    have z1:=cf 1
    have z2:=cf 2
    have z3:=cf 3
    have z4:=cf 4
    have hpl7:=lt_of_block P7.out
    have hql7:=lt_of_block Q7.out
    have ho5:=only_set5 w7 p (.int .i64 e1.thread) (.int .u8 e1.op.toNat) (.int .i64 e1.obj) (.int .i64 e1.a) (.int .i64 e1.b)
    have hb5:=heap_set5 (w1:=w7) (p:=p) (t:=87) P7.out (.int .i64 e1.thread) (.int .u8 e1.op.toNat) (.int .i64 e1.obj) (.int .i64 e1.a) (.int .i64 e1.b)
    have V8:=zH (QQ.out.1.keep ho5.size (fun g hg=>ho5.block g (QQ.out.1.lt g hg) (HF7.out g hg).2))
    have N8:=zH (NW7.out.trans' ho5 (fun g hg hc=>by have:=HWP.out;omega))
    have B8:=zH hb5
    clear ho5 hb5 cf
    have hwk:IntKind.i64.wrap ((j:Int)+1)=((j+1:Nat):Int):=by rw[←Int.natCast_one,←Int.natCast_add];exact IntWalk.i64_in _ (by omega)
    go_upto_region 27 with fail
    go_wp2
    go_roundw
    case rel =>
     refine⟨j+1,p1,e1,acc++[e1],by omega,by first|rfl|(simp;done)|rw[hwk],rfl,by omega,f7,HUN.out,?_,N8.out,HF7.out,B8.out,by rw[List.length_append,HA.out];rfl,HO1.out⟩
     have e:([e1]:List Ev).flatMap evV=evV e1:=by simp
     rw[List.flatMap_append,e]
     exact V8.out
    case measure=>simp only[intOf];omega
   ·obtain rfl:j=m:=by omega
    have q5:decide ((j:Int)<(j:Int))=false:=by simp
    have r1:=HE.out
    rw[Nat.sub_self]at r1
    unfold evsFrom at r1
    have hbd:=HBD.out
    rw[←r1]at hbd
    have hbd:=hbd acc at1 rfl
    have r2:=HEV.out
    rw[←r1]at r2
    simp only[Prod.mk.injEq]at r2
    obtain⟨rfl,rfl⟩:=r2
    have r3:=HR.out
    clear HR HEV HE HBD r1
    by_cases hlt2:at1<(n:Int)
    ·have q6:decide (at1<(n:Int))=true:=by simpa using hlt2
     rw[if_neg (by simp;omega)]at r3
     cases r3
     go_wp2
     refine bodyPost_ret (v:=.tuple #[.slice none 0 0,.int .i64 0,.int .i64 10]) (by simp[results,Tryz.results100,go_sem]) rfl ⟨_,rfl,OwnE.nil HS.out.2.1⟩
    ·have q6:decide (at1<(n:Int))=false:=by simpa using hlt2
     rw[if_pos (by simp;omega)]at r3
     cases r3
     have hw9:IntKind.i64.wrap ((k:Int)+((n+4:Nat):Int))=(k:Int)+(n:Int)+4:=by rw[show ((k:Int)+((n+4:Nat):Int))=(k:Int)+(n:Int)+4 by omega];exact IntWalk.i64_in _ (by omega)
     have hw8:IntKind.i64.wrap ((k:Int)+((n:Int)+4))=(k:Int)+(n:Int)+4:=by rw[show ((k:Int)+((n:Int)+4))=(k:Int)+(n:Int)+4 by omega];exact IntWalk.i64_in _ (by omega)
     have HO:Hid (OwnE w wr (.slice sa j sc) r):=zH ⟨by rw[HA.out];exact HS.out.1,HS.out.2.1,fun g hg=>(HS.out.2.2.1 g hg).1⟩
     go_wp2
     refine bodyPost_ret (v:=.tuple #[.slice sa j sc,.int .i64 ((k:Int)+(n:Int)+4),.int .i64 0]) (by simp[results,Tryz.results100,go_sem]) rfl ⟨_,rfl,HO.out⟩
theorem dhead_ok {w:World}{v:Value}{l:List UInt8}(hv:Bs w v l) (hl:l.length≤14000000){n x e:Int}(hr:headR l=(n,x,e)) :
  Calls Tryz.prog 99 #[v] w fun z w'=>z=.returned (.tuple #[.int .i64 n,.int .i64 x,.int .i64 e])∧Nw w w':=by
 obtain⟨xa,xc,rfl,hxc,-,hel⟩:=hv.elems
 obtain⟨ul,hul⟩:=zN (l.length)
 have EL:=zH (fun i (hi:i<l.length)=>hel i hi)
 have B1:=zH hv
 have HUL:=zH hul
 have HR:=zH hr
 obtain⟨⟨n0,x0,e0⟩,hu⟩:=zN (getU l 4)
 have HGU:=zH (fun (W:World) (v:Value) (hb:Bs W v l)=>rGetUint_ok hb hl 4 (by omega) (by omega) hu)
 have HF:=zH (getU_fine (b:=l) (at_:=4))
 have HU:=zH hu
 rw[hul]at hl hxc B1 ⊢
 have NL:=(Nw.refl w).alloc (.cells #[.int .u8 65,.int .u8 77,.int .u8 83,.int .u8 49] 5 (0,0))
 have M1:Bs (w.alloc (.cells #[.int .u8 65,.int .u8 77,.int .u8 83,.int .u8 49] 5 (0,0))) (.slice (some ⟨w.heap.size,0,none⟩) 4 4) plainS:=rd_lit (f:=u8) w 5 (0,0) plainS _ 4 rfl (by decide) (by decide)
 obtain⟨ma,mcap,hme,-,-,hml⟩:=M1.elems
 have ML:=zH (fun i (hi:i<4)=>hml i hi)
 cases hme
 have NL:=zH NL
 clear hel hml M1 hv hr hu hul
 go_enter Tryz.func99,Tryz.ntmps99
 go_wp2
 go_loopw [6] (fun iv wr=>∃k:Nat,k≤4∧k≤ul∧iv=.int .i64 k∧l.take k=plainS.take k∧Nw (w.alloc (.cells #[.int .u8 65,.int .u8 77,.int .u8 83,.int .u8 49] 5 (0,0))) wr) (fun iv _=>4-(intOf iv).toNat)
 case atStart=>exact⟨0,by omega,by omega,rfl,rfl,Nw.refl _⟩
 case round =>
  obtain⟨k,hk,hku0,rfl,htk,hw⟩:=hrel
  have HTK:=zH htk
  have HW:=zH hw
  have N2:=zH (NL.out.trans hw)
  clear htk hw
  by_cases hk4:k<4
  ·have q0:decide ((k:Int)<4)=true:=by simp;omega
   by_cases hku:k<ul
   case neg =>
    have hd1:decide ((ul:Int)≤(k:Int))=true:=by simp;omega
    have r0:=headR_short hk4 (by rw[HUL.out];omega) HTK.out
    rw[HR.out]at r0
    cases r0
    go_wp2_with fail
    refine bodyPost_ret (v:=.tuple #[.int .i64 0,.int .i64 0,.int .i64 11]) (by simp[results,Tryz.results99,go_sem]) rfl ⟨rfl,N2.out⟩
   obtain⟨mg,mo,hme,hmg,hmc⟩:=ML.out k hk4
   cases hme
   have z1:=HW.out.cell hmc
   rw[Nat.zero_add]at z1
   have hmg':=Nat.lt_of_lt_of_le hmg HW.out.size
   obtain⟨cb,hcb⟩:∃cb:UInt8,cb=plainS[k]'hk4:=⟨_,rfl⟩
   rw[←hcb]at z1
   have HCB:=zH hcb
   clear hmc hmg hcb
   change World.cell? _ _=some (.int .u8 (cb.toNat:Int)) at z1
   obtain⟨ug,uo,rfl,hug,huc⟩:=EL.out k (by rw[HUL.out];exact hku)
   have z2:=((NL.out.trans HW.out).cell huc)
   have hug':=Nat.lt_of_lt_of_le hug (NL.out.trans HW.out).size
   obtain⟨ca,hca⟩:∃ca:UInt8,ca=l[k]'(by rw[HUL.out];exact hku):=⟨_,rfl⟩
   rw[←hca]at z2
   have HCA:=zH hca
   clear huc hug hca
   change World.cell? _ _=some (.int .u8 (ca.toNat:Int)) at z2
   have hd1:decide ((ul:Int)≤(k:Int))=false:=by simp;omega
   by_cases hcc:ca=cb
   ·have heq:((ca.toNat:Int)!=(cb.toNat:Int))=false:=by rw[hcc];simp
    have hsnoc:Hid (l.take (k+1)=plainS.take (k+1)):=zH (by
     rw[List.take_add_one,List.take_add_one,HTK.out,List.getElem?_eq_getElem (by rw[HUL.out];exact hku),List.getElem?_eq_getElem (l:=plainS) hk4,←HCA.out,←HCB.out,hcc])
    have hwk:IntKind.i64.wrap ((k:Int)+1)=((k+1:Nat):Int):=by rw[←Int.natCast_one,←Int.natCast_add];exact IntWalk.i64_in _ (by omega)
    clear hcc
    go_upto_region 7 with fail
    go_quiet (fail)
    go_wp2_with fail
    go_roundw
    case rel=>exact⟨k+1,by omega,by omega,by first|rfl|(simp;done)|rw[hwk],hsnoc.out,HW.out.drewN _⟩
    case measure=>simp only[intOf];omega
   ·have hne:((ca.toNat:Int)!=(cb.toNat:Int))=true:=by
     simp only[bne_iff_ne,ne_eq,Int.ofNat_inj]
     exact fun h=>hcc (UInt8.toNat_inj.1 h)
    have r0:=headR_wrong (b:=l) (k:=k) hk4 (by rw[HUL.out];exact hku) (by rw[←HCA.out,←HCB.out];exact hcc)
    rw[HR.out]at r0
    cases r0
    go_upto_region 7 with fail
    go_quiet (fail)
    go_wp2_with fail
    refine bodyPost_ret (v:=.tuple #[.int .i64 0,.int .i64 0,.int .i64 10]) (by simp[results,Tryz.results99,go_sem]) rfl ⟨rfl,N2.out.drewN _⟩
  ·obtain rfl:k=4:=by omega
   have hmid:=headR_mid (b:=l) (by rw[HTK.out];rfl) (by rw[HUL.out];omega) HU.out
   rw[HR.out]at hmid
   obtain⟨hm,hlen⟩:=hmid
   rw[HUL.out]at hm
   have C1:=zH (HGU.out _ _ (show Bs wr _ l by have:=B1.out.nw N2.out;exact this))
   have B2:=zH (B1.out.nw N2.out)
   have hf:=HF.out
   rw[HU.out,HUL.out]at hf
   simp only at hf
   have hno:¬ ((4:Int)<4):=by omega
   clear HR HTK ML HW HGU HF hk4 hk HU
   by_cases c3:e0=0
   case neg =>
    have q1:(e0 !=0)=true:=by simpa using c3
    rw[if_pos c3]at hm
    cases hm
    clear hf hlen
    go_wp2_with fail
    refine C1.out.mono ?_
    rintro z w3 ⟨rfl,n3⟩
    have N3:=zH (N2.out.trans n3)
    clear n3
    go_wp2_with fail
    refine bodyPost_ret (v:=.tuple #[.int .i64 0,.int .i64 0,.int .i64 e]) (by simp[results,Tryz.results99,go_sem]) rfl ⟨rfl,N3.out⟩
   subst c3
   obtain⟨-,f1,f2,f3⟩:=hf rfl
   have hlen:=hlen rfl
   rw[if_neg (by simp)]at hm
   clear hf
   by_cases c4:4611686018427387904<n0
   ·have q1:decide ((4611686018427387904:Int)<(n0:Int))=true:=by simp;omega
    rw[if_pos c4]at hm
    cases hm
    clear hlen
    go_wp2_with fail
    refine C1.out.mono ?_
    rintro z w3 ⟨rfl,n3⟩
    have N3:=zH (N2.out.trans n3)
    clear n3
    go_wp2_with fail
    refine bodyPost_ret (v:=.tuple #[.int .i64 0,.int .i64 0,.int .i64 10]) (by simp[results,Tryz.results99,go_sem]) rfl ⟨rfl,N3.out⟩
   have q1:decide ((4611686018427387904:Int)<(n0:Int))=false:=by simp;omega
   rw[if_neg c4]at hm
   have hwx:IntKind.i64.wrap (x0+4)=x0+4:=IntWalk.i64_in _ (by omega)
   by_cases c5:(ul:Int)<x0+4
   ·have q2:decide ((ul:Int)<x0+4)=true:=by simpa using c5
    rw[if_pos c5]at hm
    cases hm
    clear hlen
    go_wp2_with fail
    refine C1.out.mono ?_
    rintro z w3 ⟨rfl,n3⟩
    have N3:=zH (N2.out.trans n3)
    clear n3
    go_wp2_with fail
    refine bodyPost_ret (v:=.tuple #[.int .i64 0,.int .i64 0,.int .i64 11]) (by simp[results,Tryz.results99,go_sem]) rfl ⟨rfl,N3.out⟩
   have q2:decide ((ul:Int)<x0+4)=false:=by simpa using c5
   rw[if_neg c5]at hm
   have hwn:IntKind.i64.wrap (n0:Int)=(n0:Int):=IntWalk.i64_in _ (by omega)
   obtain⟨H,hH⟩:=zN (headB n0)
   obtain⟨hh,hhl⟩:=zN (H.length)
   rw[hH]at hm hlen
   rw[hhl]at hm hlen
   have HM:=zH hm
   have HH:=zH hhl
   have hhu:hh≤ul:=by omega
   have C2:=zH (fun W=>dHead_ok n0 (by omega) W)
   rw[hH]at C2
   clear hH hhl hm hlen
   go_wp2_with fail
   refine C1.out.mono ?_
   rintro z w3 ⟨rfl,n3⟩
   have N3:=zH (N2.out.trans n3)
   have B3:=zH (B2.out.nw n3)
   clear n3 C1 B2
   go_wp2_with fail
   refine (C2.out w3).mono ?_
   rintro z w4 ⟨v4,rfl,b4,n4,-⟩
   have b4:=Vec.rd (f:=Go.Proofs.YtkbenkldfehhlaaGreatDoor.u8) b4
   obtain⟨ya,yc,rfl,hyc,-,hel4⟩:=b4.elems
   rw[HH.out]at b4 hyc ⊢
   have EL4:=zH (fun i (hi:i<H.length)=>hel4 i hi)
   have N4:=zH (N3.out.trans n4)
   clear n4 C2 B3 N3 N2 hel4 b4
   go_wp2
   go_loopw [12] (fun iv wr=>∃k:Nat,k≤hh∧iv=.int .i64 k∧l.take k=H.take k∧Nw w4 wr) (fun iv _=>hh-(intOf iv).toNat)
   case atStart=>exact⟨0,by omega,rfl,rfl,Nw.refl _⟩
   case round =>
    obtain⟨k,hk,rfl,htk,hw⟩:=hrel
    have HTK:=zH htk
    have HW:=zH hw
    clear htk hw
    by_cases hk4:k<hh
    ·have q0:decide ((k:Int)<(hh:Int))=true:=by simp;omega
     have hkH:k<H.length:=by rw[HH.out];exact hk4
     have hkL:k<l.length:=by rw[HUL.out];omega
     obtain⟨mg,mo,rfl,hmg,hmc⟩:=EL4.out k hkH
     have z1:=HW.out.cell hmc
     have hmg':=Nat.lt_of_lt_of_le hmg HW.out.size
     obtain⟨cb,hcb⟩:∃cb:UInt8,cb=H[k]'hkH:=⟨_,rfl⟩
     rw[←hcb]at z1
     have HCB:=zH hcb
     clear hmc hmg hcb
     change World.cell? _ _=some (.int .u8 (cb.toNat:Int)) at z1
     obtain⟨ug,uo,rfl,hug,huc⟩:=EL.out k hkL
     have z2:=((N4.out.trans HW.out).cell huc)
     have hug':=Nat.lt_of_lt_of_le hug (N4.out.trans HW.out).size
     obtain⟨ca,hca⟩:∃ca:UInt8,ca=l[k]'hkL:=⟨_,rfl⟩
     rw[←hca]at z2
     have HCA:=zH hca
     clear huc hug hca
     change World.cell? _ _=some (.int .u8 (ca.toNat:Int)) at z2
     have HKH:=zH hkH
     have HKL:=zH hkL
     have hku:k<ul:=by omega
     by_cases hcc:ca=cb
     ·have heq:((ca.toNat:Int)!=(cb.toNat:Int))=false:=by rw[hcc];simp
      have hsnoc:Hid (l.take (k+1)=H.take (k+1)):=zH (by
       rw[List.take_add_one,List.take_add_one,HTK.out,List.getElem?_eq_getElem HKL.out,List.getElem?_eq_getElem (l:=H) HKH.out,←HCA.out,←HCB.out,hcc])
      have hwk:IntKind.i64.wrap ((k:Int)+1)=((k+1:Nat):Int):=by rw[←Int.natCast_one,←Int.natCast_add];exact IntWalk.i64_in _ (by omega)
      clear hcc
      go_upto_region 20 with fail
      go_quiet (fail)
      go_wp2_with fail
      go_roundw
      case rel=>exact⟨k+1,by omega,by first|rfl|(simp;done)|rw[hwk],hsnoc.out,HW.out.drewN _⟩
      case measure=>simp only[intOf];omega
     ·have hne:((ca.toNat:Int)!=(cb.toNat:Int))=true:=by
       simp only[bne_iff_ne,ne_eq,Int.ofNat_inj]
       exact fun h=>hcc (UInt8.toNat_inj.1 h)
      have hno:¬ H <+: l:=fun hp=>by
       rw[List.prefix_iff_eq_take]at hp
       apply hcc
       have h1:H[k]? = l[k]?:=by
        rw[hp,List.getElem?_take_of_lt (by rw[HH.out];exact hk4)]
       rw[List.getElem?_eq_getElem HKH.out,List.getElem?_eq_getElem HKL.out,←HCA.out,←HCB.out]at h1
       exact (Option.some.inj h1).symm
      have hm:=HM.out
      rw[if_neg hno]at hm
      cases hm
      have NN:=zH (N4.out.trans HW.out)
      clear hno
      go_upto_region 20 with fail
      go_quiet (fail)
      go_wp2_with fail
      refine bodyPost_ret (v:=.tuple #[.int .i64 0,.int .i64 0,.int .i64 12]) (by simp[results,Tryz.results99,go_sem]) rfl ⟨rfl,NN.out.drewN _⟩
    ·obtain rfl:k=hh:=by omega
     have hpre:H <+: l:=take_eq_prefix (by rw[HTK.out]) HH.out (by rw[HUL.out];omega)
     have hm:=HM.out
     rw[if_pos hpre]at hm
     cases hm
     have q0:decide ((k:Int)<(k:Int))=false:=by simp
     have NN:=zH (N4.out.trans HW.out)
     clear hpre
     go_wp2_with fail
     refine bodyPost_ret (v:=.tuple #[.int .i64 n0,.int .i64 k,.int .i64 0]) (by simp[results,Tryz.results99,go_sem]) rfl ⟨rfl,NN.out⟩
end Go.Proofs.YtkbenkldfehhlaaGreatDoor
