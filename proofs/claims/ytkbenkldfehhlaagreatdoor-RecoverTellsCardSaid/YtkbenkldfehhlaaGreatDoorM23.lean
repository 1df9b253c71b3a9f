/-
  Texts merged by a program of this claim's: Ref01F, Ref01G, Ref05B, DocB, DocC.
-/
import Derived.Test.YtkbenkldfehhlaaGreatDoorM21
import Derived.Deep.DeepCutAuto
import Derived.Test.YtkbenkldfehhlaaGreatDoorM22
import Derived.Test.YtkbenkldfehhlaaGreatDoorM10
import Derived.Test.YtkbenkldfehhlaaGreatDoorM16
import Derived.Test.YtkbenkldfehhlaaGreatDoorM19
namespace Go.Proofs.YtkbenkldfehhlaaGreatDoor
open Go Go.RowKit Go.Sort
set_option maxRecDepth 100000
set_option maxHeartbeats 3200000
theorem varint_s (n:Nat) (hn:n<18446744073709551616) (W:World){S:List UInt8}(hS:uintB n=S) :
  Calls Tryz.prog 129 #[.int .u64 n] W fun e w'=>∃a c,e=.returned (.slice a S.length c)∧Bs w' (.slice a S.length c) S∧Nw W w':=by
 subst hS
 refine (Varint_ok n hn W).mono fun e w' h=>?_
 obtain⟨v,h1,h2,h3,-⟩:=h.bs
 obtain⟨a,c,rfl,-⟩:=h2.len
 exact⟨a,c,h1,h2,h3⟩
theorem rGetUint_ok {w:World}{v:Value}{b:List UInt8}(hv:Bs w v b) (hl:b.length≤14000000) (at_:Int) (h0 : -9223372036854775808≤at_) (h1:at_≤9223372036854775807){n:Nat}{next e:Int}(hr:getU b at_=(n,next,e)) :
  Calls Tryz.prog 96 #[v,.int .i64 at_] w fun z w'=>z=.returned (.tuple #[.int .u64 n,.int .i64 next,.int .i64 e])∧Nw w w':=by
 obtain⟨a,c,rfl,-⟩:=hv.len
 obtain⟨bl,hbl⟩:=zN (b.length)
 unfold getU at hr
 rw[hbl]at hl hr hv ⊢
 by_cases hout:at_<0∨(bl:Int)<at_
 ·rw[if_pos hout]at hr
  obtain⟨rfl,rfl,rfl⟩:0=n∧(0:Int)=next∧(2:Int)=e:=by simpa using hr
  clear hr hv hbl
  by_cases hn:at_<0
  ·go_enter Tryz.func96,Tryz.ntmps96
   go_wp2
   refine bodyPost_ret (v:=.tuple #[.int .u64 0,.int .i64 0,.int .i64 2]) (by simp[results,Tryz.results96,go_sem]) rfl ⟨rfl,Nw.refl _⟩
  ·have hlt:(bl:Int)<at_:=by omega
   go_enter Tryz.func96,Tryz.ntmps96
   go_wp2
   refine bodyPost_ret (v:=.tuple #[.int .u64 0,.int .i64 0,.int .i64 2]) (by simp[results,Tryz.results96,go_sem]) rfl ⟨rfl,Nw.refl _⟩
 rw[if_neg hout]at hr
 obtain⟨at',rfl⟩:∃k:Nat,at_=k:=⟨at_.toNat,by omega⟩
 rw[Int.toNat_natCast]at hr
 have hat:at'≤bl:=by omega
 obtain⟨a1,c1,hb1,-,hsl⟩:=bs_l hv at' hat hbl
 obtain⟨m,hm⟩:=zN (bl-at')
 obtain⟨rest,hrest⟩:=zN (b.drop at')
 have hrl:rest.length=m:=by rw[←hrest,List.length_drop,hbl,hm]
 rw[hm,hrest]at hb1
 rw[hm]at hsl
 rw[hrest]at hr
 have HR:=zH hr
 have HRL:=zH hrl
 have B1:=zH hb1
 have hml:m≤14000000:=by omega
 have hno:¬ (bl:Int)<(at':Int):=by omega
 have hn0:¬ (at':Int)<0:=by omega
 clear hr hrl hb1 hv hbl hout hrest
 go_enter Tryz.func96,Tryz.ntmps96
 go_wp2
 go_loopw [8] (fun i wr=>∃k:Nat,1≤k∧k≤11∧k≤m+1∧i=.int .i64 k∧Nw w wr∧∀j,1≤j→j<k→uintB (weighsL (rest.take j))≠rest.take j) (fun i _=>11-(intOf i).toNat)
 case atStart=>exact⟨1,by omega,by omega,by omega,rfl,Nw.refl _,fun j h1 h2=>by omega⟩
 case round =>
  clear hsl
  obtain⟨k,hk1,hk11,hkm,rfl,hw,hall⟩:=hrel
  have HW:=zH hw
  have HA:=zH hall
  clear hw hall
  by_cases hgo:k≤10∧k≤m
  case neg =>
   have hnone:=get_none (rest:=rest) (fun j h1 h2 h3=>HA.out j h1 (by
    rw[HRL.out]at h3
    rcases Nat.lt_or_ge j k with h|h
    ·exact h
    ·exact absurd ⟨by omega,by omega⟩ hgo))
   have hbeg:=get_begin hnone
   obtain⟨D,hD⟩:=zN (rest++[1])
   obtain⟨dl,hdl⟩:=zN (D.length)
   have hdm:dl=m+1:=by rw[←hdl,←hD,List.length_append,HRL.out];rfl
   rw[hD,hdl]at hbeg
   have hr:=HR.out
   have B1W:=B1.out.nw HW.out
   have nn:=(Nw.refl wr).alloc (.cells #[.int .u8 1] 5 (0,0))
   have R1:Bs (wr.alloc (.cells #[.int .u8 1] 5 (0,0))) (.slice (some ⟨wr.heap.size,0,none⟩) 1 1) [1]:=rd_lit (f:=Go.Proofs.YtkbenkldfehhlaaGreatDoor.u8) wr 5 (0,0) [1] _ 1 rfl (by decide) (by decide)
   have AF:=after_ok (B1W.nw nn) R1 (by rw[HRL.out];simp;omega)
   rw[hD]at AF
   have AF:=zH AF
   have NN:=zH (HW.out.trans nn)
   obtain⟨vv,hvv⟩:=zN (weighsL D)
   have hvl:vv<18446744073709551616:=by rw[←hvv];exact weighs_lt D
   obtain⟨S,hS⟩:=zN (uintB vv)
   rw[hvv,hS]at hbeg
   have HBEG:=zH hbeg
   have HNONE:=zH hnone
   have HVV:=zH hvv
   have HS:=zH hS
   have HDL:=zH hdl
   have hend:¬ (k≤10∧k≤m):=hgo
   have E2:Hid ((numF 0 0 rest).2=0→0=n∧(0:Int)=next∧(11:Int)=e):=zH (fun h=>by
    rw[if_pos h]at hr;simpa using hr)
   have E3:Hid ((numF 0 0 rest).2≠0→0=n∧(0:Int)=next∧(10:Int)=e):=zH (fun h=>by
    rw[if_neg h,if_pos (by omega)]at hr;simpa using hr)
   clear hr hnone hbeg hD hdl B1W nn R1 hvv hS HA HR hgo hdm
   have key:∀(tt:Bool),tt=false→True:=fun _ _=>trivial
   clear key
   go_upto_region 5 with fail
   go_cut [29] (fun t wx=>t=.bool false∧wx=wr)
   case first =>
    by_cases h10:k≤10
    ·have hkm2:¬ k≤m:=fun h=>hend ⟨h10,h⟩
     have q1:¬ (10:Int)<(k:Int):=by omega
     have q2:(m:Int)<(k:Int):=by omega
     go_wp2_with fail
     go_meet
     case rel=>exact⟨by first|(simp;done)|(simp;omega),rfl⟩
    ·have q1:(10:Int)<(k:Int):=by omega
     go_wp2_with fail
     go_meet
     case rel=>exact⟨by first|(simp;done)|(simp;omega),rfl⟩
   case rest =>
    obtain⟨rfl,rfl⟩:=hcut
    go_wp2_with fail
    refine AF.out.mono ?_
    rintro z w3 h3
    obtain⟨v3,rfl,b3,n3,-⟩:=h3.bs
    obtain⟨a3,c3,rfl,-⟩:=b3.len
    rw[HDL.out]at b3 ⊢
    have B3:=zH b3
    have N3:=zH (NN.out.trans n3)
    have CW:Hid (∀W,Nw w3 W→Calls Tryz.prog 146 #[.slice a3 dl c3] W fun e w'=>e=.returned (.int .u64 vv)∧Nw W w'):=zH (fun W hW=>by
     have:=weighs_ok D (B3.out.nw hW)
     rw[HVV.out]at this
     exact this)
    have CA:=zH (fun W (_:Nw w3 W)=>varint_s vv hvl W HS.out)
    clear h3 b3 n3 AF
    go_upto_region 11 with fail
    by_cases hd:dl≤10
    ·refine gu11s CW CA B3 hd ?_
     intro s51 s52 s53 s54 s55 s56 s57 s58 s59 s60 s61 s62 w4 n4 h62
     subst h62
     have N4:=zH (N3.out.trans n4)
     clear n4 CW CA
     by_cases he:S=D
     ·have hb:(S==D)=true:=by simpa using he
      rw[hb]
      obtain⟨rfl,rfl,rfl⟩:=E2.out (HBEG.out.1 ⟨hd,he⟩)
      clear hb he
      go_wp2
      refine bodyPost_ret (v:=.tuple #[.int .u64 0,.int .i64 0,.int .i64 11]) (by simp[results,Tryz.results96,go_sem]) rfl ⟨rfl,N4.out⟩
     ·have hb:(S==D)=false:=by simpa using he
      rw[hb]
      obtain⟨rfl,rfl,rfl⟩:=E3.out (fun h=>he (HBEG.out.2 h).2)
      clear hb he
      go_wp2
      refine bodyPost_ret (v:=.tuple #[.int .u64 0,.int .i64 0,.int .i64 10]) (by simp[results,Tryz.results96,go_sem]) rfl ⟨rfl,N4.out⟩
    ·refine gu11l CW CA B3 hd ?_
     intro s51 s52 s53 s54 s55 s56 s57 s58 s59 s60 s61 s62 w4 n4 h62
     subst h62
     have N4:=zH (N3.out.trans n4)
     clear n4 CW CA
     obtain⟨rfl,rfl,rfl⟩:=E3.out (fun h=>hd (HBEG.out.2 h).1)
     go_wp2
     refine bodyPost_ret (v:=.tuple #[.int .u64 0,.int .i64 0,.int .i64 10]) (by simp[results,Tryz.results96,go_sem]) rfl ⟨rfl,N4.out⟩
  obtain⟨g1,g2⟩:=hgo
  obtain⟨a2,c2,hb2,hl2,-,hsl2⟩:=bs_h (B1.out.nw HW.out) k g2
  have hx1:¬ (10:Int)<(k:Int):=by omega
  obtain⟨P,hP⟩:=zN (rest.take k)
  rw[hP]at hb2 hl2
  obtain⟨vv,hvv⟩:=zN (weighsL P)
  have hvl:vv<18446744073709551616:=by rw[←hvv];exact weighs_lt P
  have WG:=weighs_ok P hb2
  rw[hvv]at WG
  have WG:=zH WG
  have HP:=zH hP
  have HVV:=zH hvv
  have B2:=zH hb2
  clear hb2 hP hvv
  go_wp2_with fail
  refine WG.out.mono ?_
  rintro z w3 ⟨rfl,n3⟩
  obtain⟨S,hS⟩:=zN (uintB vv)
  have CA:=zH (fun W (_:Nw w3 W)=>varint_s vv hvl W hS)
  have B3:=zH (B2.out.nw n3)
  have SL:=zH hsl2
  have HS:=zH hS
  have N3:=zH (HW.out.trans n3)
  clear n3 hS hsl2 B2 WG
  go_upto_region 8 with fail
  refine gu8 CA B3 SL ?_
  intro s36 s37 s38 s39 s40 s41 s42 s43 w4 n4 h43
  subst h43
  have N4:=zH (N3.out.trans n4)
  clear n4 CA SL
  by_cases he:S=P
  ·have hb:(S==P)=true:=by simpa using he
   rw[hb]
   have hf:=get_found (rest:=rest) (k:=k) (by rw[HRL.out];exact g2) (by rw[HP.out,HVV.out,HS.out];exact he)
   rw[HP.out,HVV.out]at hf
   have hr:=HR.out
   rw[hf]at hr
   simp only at hr
   rw[if_neg (by omega),if_neg (by omega)]at hr
   obtain⟨rfl,rfl,rfl⟩:vv=n∧(at':Int)+(k:Int)=next∧(0:Int)=e:=by simpa using hr
   have hwa:IntKind.i64.wrap ((at':Int)+(k:Int))=(at':Int)+(k:Int):=IntWalk.i64_in _ (by omega)
   clear hb hf hr HR
   go_wp2
   refine bodyPost_ret (v:=.tuple #[.int .u64 vv,.int .i64 ((at':Int)+(k:Int)),.int .i64 0]) (by simp[results,Tryz.results96,go_sem]) rfl ⟨rfl,N4.out⟩
  ·have hb:(S==P)=false:=by simpa using he
   rw[hb]
   have HA2:Hid (∀j,1≤j→j<k+1→uintB (weighsL (rest.take j))≠rest.take j):=zH (fun j h1 h2=>by
    by_cases hjk:j=k
    ·subst hjk;rw[HP.out,HVV.out,HS.out];exact he
    ·exact HA.out j h1 (by omega))
   clear hb he
   go_wp2
   go_roundw
   case rel=>exact⟨k+1,by omega,by omega,by omega,by go_num,N4.out,HA2.out⟩
   case measure=>simp[intOf];omega
set_option maxHeartbeats 1600000
theorem rGetBlob_ok {w:World}{v:Value}{l:List UInt8}(hv:Bs w v l) (hl:l.length≤14000000) (at_ most:Int) (ha0 : -9223372036854775808≤at_) (ha1:at_≤9223372036854775807) (hm0:0≤most) (hm1:most≤1000000){r:List UInt8}{x e:Int}(hr:getB l at_ most=(r,x,e)) :
  Calls Tryz.prog 97 #[v,.int .i64 at_,.int .i64 most] w fun y w'=>∃v',y=.returned (.tuple #[v',.int .i64 x,.int .i64 e])∧Bs w' v' r∧Nw w w':=by
 obtain⟨a,cap,rfl,-⟩:=hv.len
 obtain⟨⟨n0,x0,e0⟩,hu⟩:=zN (getU l at_)
 have HU:=rGetUint_ok hv hl at_ ha0 ha1 hu
 have hf:=getU_fine (b:=l) (at_:=at_)
 unfold getB at hr
 rw[hu]at hf hr
 simp only at hf hr
 have HV:=zH hv
 obtain⟨n,hn⟩:=zN (l.length)
 have HN:=zH hn
 rw[hn]at hl HU HV hf hr ⊢
 have HU:=zH HU
 clear hv hu hn ha0 ha1
 by_cases c0:e0=0
 case neg =>
  rw[if_pos c0]at hr
  cases hr
  clear hf HV
  have q1:(e !=0)=true:=by simpa using c0
  go_enter Tryz.func97,Tryz.ntmps97
  go_wp2_with fail
  refine HU.out.mono ?_
  rintro z w2 ⟨rfl,n2⟩
  have N2:=zH n2
  clear n2
  go_wp2
  refine bodyPost_ret (v:=.tuple #[.slice none 0 0,.int .i64 0,.int .i64 e]) (by simp[results,Tryz.results97,go_sem]) rfl ⟨_,rfl,.inl ⟨none,rfl,rfl⟩,N2.out⟩
 subst c0
 rw[if_neg (by simp)]at hr
 obtain⟨-,f1,f2,f3⟩:=hf rfl
 have q1:((0:Int)!=0)=false:=rfl
 have qm:decide (most<0)=false:=by simpa using hm0
 have hmc:most % 18446744073709551616=most:=by omega
 by_cases c1:most<(n0:Int)
 ·rw[if_pos c1]at hr
  cases hr
  have q2:decide (most<(n0:Int))=true:=by simpa using c1
  clear HV
  go_enter Tryz.func97,Tryz.ntmps97
  go_wp2_with fail
  refine HU.out.mono ?_
  rintro z w2 ⟨rfl,n2⟩
  have N2:=zH n2
  clear n2
  go_wp2
  refine bodyPost_ret (v:=.tuple #[.slice none 0 0,.int .i64 0,.int .i64 3]) (by simp[results,Tryz.results97,go_sem]) rfl ⟨_,rfl,.inl ⟨none,rfl,rfl⟩,N2.out⟩
 rw[if_neg c1]at hr
 have q2:decide (most<(n0:Int))=false:=by simpa using c1
 obtain⟨k,rfl⟩:∃k:Nat,x0=k:=⟨x0.toNat,by omega⟩
 rw[Int.toNat_natCast]at hr
 have hk:k≤n:=by omega
 obtain⟨lf,hlf⟩:=zN (n-k)
 have hwl:IntKind.i64.wrap ((n:Int)-(k:Int))=(lf:Int):=by rw[show (n:Int)-(k:Int)=(lf:Int) by omega];exact IntWalk.i64_in _ (by omega)
 have hlc:(lf:Int) % 18446744073709551616=(lf:Int):=by omega
 by_cases c2:(n:Int)<(k:Int)+(n0:Int)
 ·rw[if_pos c2]at hr
  cases hr
  have q3:decide ((lf:Int)<(n0:Int))=true:=by simp;omega
  clear HV
  go_enter Tryz.func97,Tryz.ntmps97
  go_wp2_with fail
  refine HU.out.mono ?_
  rintro z w2 ⟨rfl,n2⟩
  have N2:=zH n2
  clear n2
  go_wp2
  refine bodyPost_ret (v:=.tuple #[.slice none 0 0,.int .i64 0,.int .i64 11]) (by simp[results,Tryz.results97,go_sem]) rfl ⟨_,rfl,.inl ⟨none,rfl,rfl⟩,N2.out⟩
 rw[if_neg c2]at hr
 have q3:¬ lf<n0:=by omega
 have q4:decide (lf<n0)=false:=by simp;omega
 obtain⟨a2,c2',hb2,hl2,-,t2⟩:=bs_lh HV.out k (k+n0) (by omega) (by omega)
 have hsub:k+n0-k=n0:=by omega
 rw[hsub]at hb2 hl2 t2
 have hr1:(l.drop k).take n0=r∧(k:Int)+n0=x∧0=e:=by simpa using hr
 obtain⟨hr1,rfl,rfl⟩:=hr1
 rw[hr1]at hb2 hl2
 have B2:=zH hb2
 have HL2:=zH hl2
 have hw:IntKind.i64.wrap ((k:Int)+(n0:Int))=(k:Int)+(n0:Int):=IntWalk.i64_in _ (by omega)
 have hwk:IntKind.i64.wrap ((n:Int)-(lf:Int))=(k:Int):=by rw[show (n:Int)-(lf:Int)=(k:Int) by omega];exact IntWalk.i64_in _ (by omega)
 rw[Int.natCast_add]at t2
 have hw2:IntKind.i64.wrap (n0:Int)=(n0:Int):=IntWalk.i64_in _ (by omega)
 have hn0l:n0≤14000000:=by omega
 have hnn:¬ (n:Int)<(k:Int)+(n0:Int):=c2
 clear hb2 hl2 HV hr hsub hr1 hf hlf c2 hnn
 go_enter Tryz.func97,Tryz.ntmps97
 go_wp2_with fail
 refine HU.out.mono ?_
 rintro z w2 ⟨rfl,n2⟩
 have AF:=after_ok (.inl ⟨none,rfl,rfl⟩:Bs w2 (.slice none 0 0) []) (B2.out.nw n2) (by rw[HL2.out];simp;omega)
 rw[List.nil_append]at AF
 have AF:=zH AF
 have N2:=zH n2
 clear n2
 go_wp2_with fail
 refine AF.out.mono ?_
 rintro z w3 h3
 obtain⟨v3,rfl,b3,n3,-⟩:=h3.bs
 obtain⟨a3,c3,rfl,-⟩:=b3.len
 have B3:=zH b3
 have N3:=zH (N2.out.trans n3)
 obtain⟨rl,hrl⟩:=zN (r.length)
 rw[hrl]at B3 ⊢
 clear h3 b3 n3 AF t2
 go_wp2
 refine bodyPost_ret (v:=.tuple #[.slice a3 rl c3,.int .i64 ((k:Int)+(n0:Int)),.int .i64 0]) (by simp[results,Tryz.results97,go_sem]) rfl ⟨_,rfl,B3.out,N3.out⟩
set_option maxHeartbeats 3200000
structure MB (w x:World) (v:Value) (l:List UInt8):Prop where
 vec:Vec 1 x v l.length (l.map u8)
 nw:Nw w x
 new:∀g,v.ownBlock=some g→w.heap.size≤g
theorem MB.of {w x x':World}{e:Ending}{l:List UInt8}(h:NewB x l e x') (hw:Nw w x):∃a c,e=.returned (.slice a l.length c)∧MB w x' (.slice a l.length c) l:=by
 obtain⟨v,rfl,h2,h3,h4⟩:=h
 obtain⟨a,c,rfl,-⟩:=h2.len
 exact⟨a,c,rfl,h2,hw.trans h3,fun g hg=>Nat.le_trans hw.size (h4 g hg)⟩
theorem MB.bs {w x:World}{v:Value}{l:List UInt8}(h:MB w x v l):Bs x v l:=h.vec.rd
theorem dManifest_no {w:World}{v:Value}{l:List Pc}(hv:Pcs w v l) (hr:rightL l=false) :
  Calls Tryz.prog 124 #[v] w fun e w'=>e=.returned (.tuple #[.slice none 0 0,.int .i64 14])∧Nw w w':=by
 have HV:=zH hv
 obtain⟨a,cap,rfl,hc,hm,-⟩:=hv.elem
 have HR:=zH (dRight_ok hv)
 rw[hr]at HR
 clear hr hv
 go_enter Tryz.func124,Tryz.ntmps124
 go_wp2_with fail
 refine HR.out.mono ?_
 rintro e w1 ⟨rfl,n1⟩
 go_wp2
 refine bodyPost_ret (v:=.tuple #[.slice none 0 0,.int .i64 14]) (by simp[results,Tryz.results124,go_sem]) rfl ⟨rfl,n1⟩
theorem dManifest_ok {w:World}{v:Value}{l:List Pc}(hv:Pcs w v l) (hr:rightL l=true) :
  Calls Tryz.prog 124 #[v] w (NewE w (manifestB l)):=by
 have HV:=zH hv
 have HB:=zH (rightL_bound hr)
 obtain⟨a,cap,rfl,hc,hm,hel⟩:=hv.elem
 have HE:=zH hel
 have HR:=zH (dRight_ok hv)
 rw[hr]at HR
 clear hr hv hel
 obtain⟨n,hn⟩:=zN (l.length)
 have HN:=zH hn
 rw[hn]at hc HR ⊢
 have hn100:n≤100:=by rw[←hn];exact HB.out.2.1
 clear hn
 obtain⟨i0,hi,hz0,hz1,hz2⟩:=info_parts infoU8
 have HI:=zH hi
 have HZ0:=zH hz0
 have HZ1:=zH hz1
 have HZ2:=zH hz2
 clear hi hz0 hz1 hz2
 have hm64:((n:Nat):Int) % 18446744073709551616=n:=by omega
 have hw64:IntKind.u64.wrap (n:Int)=n:=Go.wraps_u64 _ (by omega) (by omega)
 go_enter Tryz.func124,Tryz.ntmps124
 go_wp2_with fail
 refine HR.out.mono ?_
 rintro e w1 ⟨rfl,n1⟩
 have N1:=zH n1
 clear n1 HR
 have V0:=zH (vec_lit w1 5 1 4 (([65,77,77,49]:List UInt8).map u8) _ (0,0) rfl rfl (by decide) (fun j hj=>by omega))
 have NA:=zH (N1.out.trans ((Nw.refl w1).alloc (.cells (([65,77,77,49]:List UInt8).map u8).toArray 5 (0,0))))
 go_wp2_with fail
 refine (rUint_ok (l:=[65,77,77,49]) V0.out.rd n (by omega) (by decide)).mono ?_
 rintro e w2 q
 obtain⟨b2,c2,rfl,M2⟩:=MB.of q NA.out
 have HU:Hid ((uintB n).length≤10):=zH (uintB_len _ 10 (by omega) (Nat.lt_trans (show n<2 ^ 64 by omega) (by decide)))
 have M:=zH M2
 clear q M2 V0 NA
 obtain⟨p0,hp0⟩:∃p0:List UInt8,p0=[65,77,77,49]++uintB n:=⟨_,rfl⟩
 rw[←hp0]at M
 have HP0:=zH hp0
 have hpl:p0.length≤14:=by rw[hp0];have:=HU.out;simp only[List.length_append,List.length_cons,List.length_nil];omega
 have hpe:([65,77,77,49]++uintB n:List UInt8).length=p0.length:=by rw[hp0]
 clear hp0 HU
 simp only[hpe]at M ⊢
 clear hpe
 go_wp2
 go_loopw [4,5] (fun b i wr=>∃(k:Nat),k≤n∧i=.int .i64 k∧MB w wr b (p0++(l.take k).flatMap pieceB)) (fun _ i _=>n-(intOf i).toNat)
 case atStart=>exact⟨0,by omega,rfl,by simpa using M.out⟩
 case round =>
  obtain⟨k,hk,rfl,hb⟩:=hrel
  have hlen:(p0++(l.take k).flatMap pieceB).length≤14+62*100:=by
   have h4:=flat_len (l:=l.take k) fun p hp=>by
    obtain⟨a,b,c,d,e⟩:=HB.out.2.2 p (List.mem_of_mem_take hp)
    exact pieceB_len a (by omega) (by omega)
   have:(l.take k).length≤100:=by simp;omega
   rw[List.length_append];omega
  have LN:=zH hlen
  clear hlen
  by_cases hlt:k<n
  ·have hkl:k<l.length:=by rw[HN.out];exact hlt
   obtain⟨g,o,rfl,hg,c0,c1,c2,c3⟩:=HE.out k hkl
   obtain⟨b1,b2,b3,b4,b5⟩:=HB.out.2.2 _ (List.getElem_mem hkl)
   have hpt:p0++(l.take (k+1)).flatMap pieceB=(p0++(l.take k).flatMap pieceB)++pieceB l[k]:=by rw[manifest_part hkl,List.append_assoc]
   obtain⟨q0,hq0⟩:∃q0,q0=p0++(l.take (k+1)).flatMap pieceB:=⟨_,rfl⟩
   rw[←hq0]at hpt
   have HQ0:=zH hq0
   clear hq0
   generalize p0++(l.take k).flatMap pieceB=p1 at *
   generalize hP:(l[k]:Pc)=P at *
   obtain⟨pn,pf,pc,pd⟩:=P
   simp only at c0 c1 c2 c3 b1 b2 b3 b4 b5
   obtain⟨sa,sc,rfl,-⟩:=hb.vec.len
   have V:=zH hb
   have BD:=zH (And.intro b1 (And.intro b2 (And.intro b3 (And.intro b4 b5))))
   have HPT:=zH hpt
   obtain⟨fn,rfl⟩:=Int.eq_ofNat_of_zero_le BD.out.2.1
   obtain⟨cn,rfl⟩:=Int.eq_ofNat_of_zero_le BD.out.2.2.2.1
   have C:=zH (And.intro c0 (And.intro c1 (And.intro c2 (And.intro c3 hg))))
   clear hb b1 b2 b3 b4 b5 hpt hP c0 c1 c2 c3 hg
   have hfn:fn<1152921504606846976:=by have:=BD.out.2.2.1;omega
   have hcn:cn≤1099511627776:=by have:=BD.out.2.2.2.2;omega
   have hnl:pn.length≤40:=by
    have:=(okPiece_name BD.out.1).1
    simp only[okName,Bool.and_eq_true,decide_eq_true_eq]at this
    exact this.1.2
   have hf64:IntKind.u64.wrap (fn:Int)=fn:=Go.wraps_u64 _ (by omega) (by omega)
   have hc64:IntKind.u64.wrap (cn:Int)=cn:=Go.wraps_u64 _ (by omega) (by omega)
   have d0:=V.out.nw.cell C.out.1
   have hg':=Nat.lt_of_lt_of_le C.out.2.2.2.2 V.out.nw.size
   have cv:(convert 9 79 (.string ⟨pn.toArray⟩)).run Tryz.prog wr=.ok (.slice (some ⟨wr.heap.size,0,none⟩) pn.length (grownCap wr pn.length 0 5)) (Lib.bytesWorld wr 5 ⟨pn.toArray⟩):=Lib.run_convert_string_bytes (P:=Tryz.prog) wr 9 79 5 ⟨pn.toArray⟩ Tryz.underlying9 Tryz.underlying79 Tryz.underlying5
   have hcv:=Vec.of_conv wr 5 pn (by unfold maxLen;omega)
   generalize Lib.bytesWorld wr 5 ⟨pn.toArray⟩=W3 at cv hcv
   generalize grownCap wr pn.length 0 5=cc at cv hcv
   have HCV:=zH hcv
   clear hcv
   go_upto_region 7 with fail
   go_wp2_with fail
   refine (rBlob_ok (V.out.bs.nw HCV.out.2) HCV.out.1.rd (by have:=LN.out;omega)).mono ?_
   clear cv d0
   rintro e w4 q
   have hbl:(p1++(uintB pn.length++pn)).length≤14+62*100+50:=by
    have h1:=LN.out
    have h2:=uintB_len pn.length 1 (by omega) (by omega)
    simp only[List.length_append];omega
   have hpt2:q0=(p1++(uintB pn.length++pn))++(uintB fn++(uintB cn++[if pd then 1 else 0])):=by rw[HPT.out];simp[pieceB,blobB]
   have QQ:=zH q
   clear q
   generalize p1++(uintB pn.length++pn)=p2 at QQ hbl hpt2
   obtain⟨xa,xc,rfl,M4⟩:=MB.of QQ.out (V.out.nw.trans HCV.out.2)
   have LN2:=zH hbl
   have HPT2:=zH hpt2
   have V4:=zH M4
   clear hbl hpt2 M4 QQ HCV V
   have d1:=V4.out.nw.cell C.out.2.1
   have hg':=Nat.lt_of_lt_of_le C.out.2.2.2.2 V4.out.nw.size
   go_wp2_with fail
   refine (rUint_ok V4.out.bs fn (by omega) (by have:=LN2.out;omega)).mono ?_
   clear d1
   rintro e w5 q
   have hbl:(p2++uintB fn).length≤14+62*100+60:=by
    have h1:=LN2.out
    have h2:=uintB_len fn 10 (by omega) (Nat.lt_trans (show fn<2 ^ 64 by omega) (by decide))
    simp only[List.length_append];omega
   have hpt2:q0=(p2++uintB fn)++(uintB cn++[if pd then 1 else 0]):=by rw[HPT2.out];simp
   have QQ:=zH q
   clear q HPT2 LN2
   generalize p2++uintB fn=p3 at QQ hbl hpt2
   obtain⟨ya,yc,rfl,M5⟩:=MB.of QQ.out V4.out.nw
   have LN2:=zH hbl
   have HPT2:=zH hpt2
   have V5:=zH M5
   clear hbl hpt2 M5 QQ V4
   have d2:=V5.out.nw.cell C.out.2.2.1
   have hg':=Nat.lt_of_lt_of_le C.out.2.2.2.2 V5.out.nw.size
   go_wp2_with fail
   refine (rUint_ok V5.out.bs cn (by omega) (by have:=LN2.out;omega)).mono ?_
   clear d2
   rintro e w6 q
   have hbl:(p3++uintB cn).length≤14+62*100+70:=by
    have h1:=LN2.out
    have h2:=uintB_len cn 10 (by omega) (Nat.lt_trans (show cn<2 ^ 64 by omega) (by decide))
    simp only[List.length_append];omega
   have hpt2:q0=(p3++uintB cn)++[if pd then 1 else 0]:=by rw[HPT2.out];simp
   have QQ:=zH q
   clear q HPT2 LN2
   generalize p3++uintB cn=p4 at QQ hbl hpt2
   obtain⟨za,zc,rfl,M6⟩:=MB.of QQ.out V5.out.nw
   have LN2:=zH hbl
   have HPT2:=zH hpt2
   have V6:=zH M6
   clear hbl hpt2 M6 QQ V5
   have d3:=V6.out.nw.cell C.out.2.2.2.1
   have hg':=Nat.lt_of_lt_of_le C.out.2.2.2.2 V6.out.nw.size
   obtain⟨dn,hdn,hdn2⟩:∃dn:UInt8,dn=(if pd then 1 else 0)∧(dn=0∨dn=1):=⟨_,rfl,by cases pd <;> simp⟩
   rw[←hdn]at HPT2
   have V7:=zH (V6.out.vec.nw ((Nw.refl w6).alloc (.cells #[u8 dn] 5 (0,0))))
   have S7:=zH (src_lit w6 5 (0,0) 1 1 1 [u8 dn] rfl (by omega) (by decide))
   have hrest:∀v' w',Vec 1 w' v' (p4.length+1) (p4.map u8++[u8 dn])→Only (fun k=>(Value.slice za p4.length zc).ownBlock=some k) (w6.alloc (.cells #[u8 dn] 5 (0,0))) w' →
     (v'.ownBlock=(Value.slice za p4.length zc).ownBlock∨∀g,v'.ownBlock=some g→(w6.alloc (.cells #[u8 dn] 5 (0,0))).heap.size≤g)→MB w w' v' q0:=fun v' w' e1 e2 e3=>by
    refine⟨by rw[HPT2.out,List.map_append,List.length_append];exact e1,(V6.out.nw.alloc _).trans' e2 (fun k hk hc=>by have:=V6.out.new k hc;omega),fun g hg=>?_⟩
    rcases e3 with h|h
    ·exact V6.out.new g (h▸hg)
    ·have h1:=h g hg
     have h2:=V6.out.nw.size
     simp only[World.size_alloc]at h1
     omega
   have HREST:=zH hrest
   clear hrest
   cases pd
   case false =>
    obtain rfl:dn=0:=hdn
    have e8:u8 0=.int .u8 0:=rfl
    rw[e8]at V7 S7 HREST
    go_wp2_with (at_builtin;refine wpList_append_vec rfl _ _ 79 rfl 5 i0 (.int .u8 0) 1 1 Tryz.underlying79 HI.out HZ0.out HZ1.out HZ2.out rfl (by decide) rfl rfl V7.out S7.out ?c1 ?c2 ?c3 ?_)
    case c1=>intro u hu;rw[List.mem_singleton]at hu;subst hu;rfl
    case c2=>have:=LN2.out;unfold maxLen;omega
    case c3=>have:=LN2.out;omega
    intro v8 w8 f1 f2 f3
    have F:=zH (HREST.out v8 w8 f1 f2 (by rw[World.size_alloc];exact f3))
    clear f1 f2 f3 d3
    go_wp2
    go_roundw
    case rel=>exact⟨k+1,by omega,by go_num,by rw[←HQ0.out];exact F.out⟩
    case measure=>simp only[intOf];omega
   case true =>
    obtain rfl:dn=1:=hdn
    have e8:u8 1=.int .u8 1:=rfl
    rw[e8]at V7 S7 HREST
    go_wp2_with (at_builtin;refine wpList_append_vec rfl _ _ 79 rfl 5 i0 (.int .u8 0) 1 1 Tryz.underlying79 HI.out HZ0.out HZ1.out HZ2.out rfl (by decide) rfl rfl V7.out S7.out ?c1 ?c2 ?c3 ?_)
    case c1=>intro u hu;rw[List.mem_singleton]at hu;subst hu;rfl
    case c2=>have:=LN2.out;unfold maxLen;omega
    case c3=>have:=LN2.out;omega
    intro v8 w8 f1 f2 f3
    have F:=zH (HREST.out v8 w8 f1 f2 (by rw[World.size_alloc];exact f3))
    clear f1 f2 f3 d3
    go_wp2
    go_roundw
    case rel=>exact⟨k+1,by omega,by go_num,by rw[←HQ0.out];exact F.out⟩
    case measure=>simp only[intOf];omega
  ·obtain rfl:k=n:=by omega
   have hall:l.take k=l:=by rw[←HN.out];exact List.take_length
   rw[hall]at hb
   have HMI:Hid (p0++l.flatMap pieceB=manifestIn l):=zH (by rw[HP0.out];unfold manifestIn;rw[HN.out])
   rw[HMI.out]at hb
   have hlen:(manifestIn l).length≤14+62*100:=by have:=LN.out;rw[hall,HMI.out]at this;exact this
   have HMB:Hid (manifestB l=sealB sumB (manifestIn l)):=zH rfl
   obtain⟨sa,sc,rfl,-⟩:=hb.vec.len
   have V:=zH hb
   clear hb hall HMI
   generalize manifestIn l=mi at *
   go_wp2_with fail
   refine (rSeal_ok V.out.bs (by omega)).mono ?_
   rintro e w4 ⟨v4,rfl,q1,q2,q3⟩
   rw[←HMB.out]at q1
   obtain⟨xa,xc,rfl,-⟩:=q1.len
   have Q:=zH (And.intro q1 (And.intro q2 q3))
   clear q1 q2 q3
   go_wp2
   refine bodyPost_ret (v:=.tuple #[.slice xa (manifestB l).length xc,.int .i64 0]) (by simp[results,Tryz.results124,go_sem]) rfl ⟨_,rfl,Q.out.1,V.out.nw.trans Q.out.2.1,fun g hg=>Nat.le_trans V.out.nw.size (Q.out.2.2 g hg)⟩
set_option maxHeartbeats 1600000
section
variable {X:Nat→Prop}{d d':Dsk}{v:Value}{w:World}
theorem remove_13 {n:Str}{d1:Dsk}(h:d.remove n=(d1,13)):d1=d:=by
 unfold Dsk.remove Dsk.op at h
 split at h
 ·exact absurd (show (15:Int)=13 from congrArg Prod.snd h) (by decide)
 ·split at h
  ·exact (congrArg Prod.fst h).symm
  ·split at h
   ·exact absurd (show (15:Int)=13 from congrArg Prod.snd h) (by decide)
   ·exact absurd (show (0:Int)=13 from congrArg Prod.snd h) (by decide)
theorem set4_end {Y:Nat→Prop}{w3:World}{p:Nat}{m la:Int}{a:Option Addr}{nn c:Nat}{dn:Bool}{u0 u1 u2 u3:Value}(hN:Nw w w3) (hp:w.heap.size≤p) (hb:w3.heap[p]? = some (DB u0 u1 u2 u3)) (hD:RD Y w3 v d) (hY:∀k,Y k→X k∧k≠p) :
  ∃w4,((((w3.setCell ⟨p,0,none⟩ (.int .i64 m)).setCell ⟨p,1,none⟩ (.slice a nn c)).setCell ⟨p,2,none⟩ (.int .i64 la)).setCell ⟨p,3,none⟩ (.bool dn))=w4∧RD X w4 v d∧Nw w w4∧Only (fun k=>k=p) w3 w4∧w4.heap[p]? = some (DB (.int .i64 m) (.slice a nn c) (.int .i64 la) (.bool dn)):=by
 have hO:=only_set4 w3 p (.int .i64 m) (.slice a nn c) (.int .i64 la) (.bool dn)
 refine⟨_,rfl,(hD.put hO (fun k hk _ e=>(hY k hk).2 e)).mono fun k hk=>(hY k hk).1,hN.trans' hO (fun k hk e=>by omega),hO,heap_set4 hb _ _ _ _⟩
theorem boxes_in (w:World) (A B:Obj):Nw w ((w.alloc A).alloc B)∧((w.alloc A).alloc B).heap[w.heap.size]? = some A∧((w.alloc A).alloc B).heap[w.heap.size+1]? = some B∧((w.alloc A).alloc B).heap.size=w.heap.size+2:=by
 refine⟨((Nw.refl w).alloc _).alloc _,?_,?_,by simp⟩
 ·rw[heap_alloc_old _ _ (by simp)];exact heap_alloc_new w A
 ·have:=heap_alloc_new (w.alloc A) B
  simpa using this
theorem dHead_ok (n:Nat) (hn:n≤4611686018427387904) (w:World) :
  Calls Tryz.prog 122 #[.int .i64 n] w (NewE w (headB n)):=by
 have q1:decide ((n:Int)<0)=false:=by simp
 have q2:decide ((4611686018427387904:Int)<(n:Int))=false:=by simp;omega
 have hw2:IntKind.u64.wrap (n:Int)=(n:Int):=by rw[IntKind.wrap_u64];omega
 have V0:=zH (vec_lit w 5 1 4 (([65,77,83,49]:List UInt8).map Go.Proofs.YtkbenkldfehhlaaGreatDoor.u8) _ (0,0) rfl rfl (by decide) (fun j hj=>by omega))
 go_enter Tryz.func122,Tryz.ntmps122
 go_wp2_with fail
 refine (rUint_ok (l:=[65,77,83,49]) V0.out.rd n (by omega) (by simp)).mono ?_
 rintro e w1 ⟨v1,rfl,q1,q2,q3⟩
 have HH:Hid (headB n=sealB sumB ([65,77,83,49]++uintB n)):=zH rfl
 have HL:Hid (([65,77,83,49]++uintB n).length≤14):=zH (by
  have:=uintB_len n 10 (by omega) (Nat.lt_trans (show n<2 ^ 64 by omega) (by decide))
  simp only[List.length_append,List.length_cons,List.length_nil];omega)
 have N1:Hid (Nw w w1):=zH (((Nw.refl w).alloc _).trans q2)
 generalize [65,77,83,49]++uintB n=l1 at *
 obtain⟨xa,xc,rfl,-⟩:=q1.len
 have Q:=zH q1
 clear q1 q2 q3
 go_wp2_with fail
 refine (rSeal_ok Q.out.rd (by have:=HL.out;omega)).mono ?_
 rintro e w2 ⟨v2,rfl,q1,q2,q3⟩
 rw[←HH.out]at q1
 obtain⟨ya,yc,rfl,-⟩:=q1.len
 have P:=zH (And.intro q1 (And.intro q2 q3))
 clear q1 q2 q3
 go_wp2
 refine bodyPost_ret (v:=.tuple #[.slice ya (headB n).length yc,.int .i64 0]) (by simp[results,Tryz.results122,go_sem]) rfl ⟨_,rfl,P.out.1,N1.out.trans P.out.2.1,fun g hg=>Nat.le_trans N1.out.size (P.out.2.2 g hg)⟩
theorem dGone_ok (h:RD X w v d) (hX:∀k,w.heap.size≤k→X k){n:Str}{x:Int}(hr:d.gone n=(d',x)) :
  Calls Tryz.prog 155 #[v,.string ⟨n.toArray⟩] w (RDE X w d' x):=by
 obtain⟨m,a,nn,c,la,dn,rfl⟩:=h.parts
 obtain⟨d1,x1,hr1⟩:∃d1 x1,d.remove n=(d1,x1):=⟨_,_,rfl⟩
 obtain⟨rfl,hx⟩:d1=d'∧(if x1=13 then 0 else x1)=x:=by
  unfold Dsk.gone at hr
  rw[hr1]at hr
  exact Prod.mk.inj hr
 have HXX:=zH hx
 clear hr hx
 have HB:=zH (boxes_in w (DB (.int .i64 m) (.slice a nn c) (.int .i64 la) (.bool dn)) (DB (.int .i64 0) (.slice none 0 0) (.int .i64 0) (.bool false)))
 have HD:=zH h
 have HX:=zH hX
 clear h hX
 obtain⟨w1,hw1⟩:=zN ((w.alloc (DB (.int .i64 m) (.slice a nn c) (.int .i64 la) (.bool dn))).alloc (DB (.int .i64 0) (.slice none 0 0) (.int .i64 0) (.bool false)))
 rw[hw1]at HB
 unfold DB at hw1
 have D1:=zH (HD.out.in_ HB.out.1)
 go_enter Tryz.func155,Tryz.ntmps155
 go_upto_region 1 with fail
 clear hw1
 obtain⟨b0,b1,b2,b3,-⟩:=box_cells HB.out.2.1
 have R1:=zH (D1.out.remove (fun k hk=>.inr hk) hr1)
 go_wp2_with fail
 refine R1.out.mono ?_
 rintro e w2 ⟨m2,a2,n2,c2,la2,dn2,rfl,d2,nw2⟩
 have D2:=zH d2
 have N2:=zH nw2
 clear d2 nw2 b0 b1 b2 b3 R1 D1
 have N3:=zH ((Nw.refl w2).alloc (DB (.int .i64 m2) (.slice a2 n2 c2) (.int .i64 la2) (.bool dn2)))
 have B3:=zH (heap_alloc_new w2 (DB (.int .i64 m2) (.slice a2 n2 c2) (.int .i64 la2) (.bool dn2)))
 obtain⟨p3,hp3⟩:=zN (w2.heap.size)
 obtain⟨w3,hw3⟩:=zN (w2.alloc (DB (.int .i64 m2) (.slice a2 n2 c2) (.int .i64 la2) (.bool dn2)))
 rw[hw3]at N3 B3
 rw[hp3]at B3
 unfold DB at hw3
 go_upto_region 2 with fail
 have N13:=zH (N2.out.trans N3.out)
 have BD:=zH (N13.out.at_ HB.out.2.1)
 have BR:=zH (N13.out.at_ HB.out.2.2.1)
 have hs1:=HB.out.2.2.2
 have hps:w.heap.size+2≤p3:=by have:=N2.out.size;omega
 clear hw3
 by_cases h13:x1=13
 ·obtain rfl:d1=d:=by subst h13;exact remove_13 hr1
  have q:(x1==13)=true:=by simpa using h13
  obtain⟨b0,b1,b2,b3,-⟩:=box_cells BD.out
  obtain⟨r0,r1,r2,r3,f0,f1,f2,f3⟩:=box_cells BR.out
  go_wp2
  obtain⟨w4,hw4,D4,N4,-,B4⟩:=set4_end (X:=X) (m:=m) (la:=la) (a:=a) (nn:=nn) (c:=c) (dn:=dn) (HB.out.1.trans N13.out) (by omega) BR.out (HD.out.narrow.nw (HB.out.1.trans N13.out)) (fun k hk=>⟨hk.1,by omega⟩)
  rw[hw4]
  obtain⟨e0,e1,e2,e3,-⟩:=box_cells B4
  have hx0:x=0:=by rw[←HXX.out,if_pos h13]
  exact bodyPost_ret (v:=.tuple #[.agg #[.int .i64 m,.slice a nn c,.int .i64 la,.bool dn],.int .i64 0]) (by simp[results,Tryz.results155,go_sem,e0,e1,e2,e3]) rfl ⟨m,a,nn,c,la,dn,by rw[hx0],D4,N4⟩
 ·have q:(x1==13)=false:=by simpa using h13
  obtain⟨b0,b1,b2,b3,-⟩:=box_cells B3.out
  obtain⟨r0,r1,r2,r3,f0,f1,f2,f3⟩:=box_cells BR.out
  have D3:=zH (D2.out.nw N3.out)
  go_wp2
  obtain⟨w4,hw4,D4,N4,-,B4⟩:=set4_end (X:=X) (m:=m2) (la:=la2) (a:=a2) (nn:=n2) (c:=c2) (dn:=dn2) (HB.out.1.trans N13.out) (by omega) BR.out D3.out (fun k hk=>by
   rcases hk with hk|hk
   ·exact⟨hk.1,by omega⟩
   ·exact⟨HX.out k (by omega),by omega⟩)
  rw[hw4]
  obtain⟨e0,e1,e2,e3,-⟩:=box_cells B4
  have hx0:x=x1:=by rw[←HXX.out,if_neg h13]
  exact bodyPost_ret (v:=.tuple #[.agg #[.int .i64 m2,.slice a2 n2 c2,.int .i64 la2,.bool dn2],.int .i64 x1]) (by simp[results,Tryz.results155,go_sem,e0,e1,e2,e3]) rfl ⟨m2,a2,n2,c2,la2,dn2,by rw[hx0],D4,N4⟩
end
set_option maxHeartbeats 3200000
section
variable {X:Nat→Prop}{d d':Dsk}{v:Value}{w wk w':World}{m la m' la':Int}{a a':Option Addr}{n c n' c':Nat}{dn dn':Bool}
structure Stt (X:Nat→Prop) (w wk:World) (d:Dsk) (m:Int) (a:Option Addr) (n c:Nat) (la:Int) (dn:Bool):Prop where
 nw:Nw w wk
 lt:w.heap.size+2≤wk.heap.size
 box:wk.heap[w.heap.size]? = some (DB (.int .i64 m) (.slice a n c) (.int .i64 la) (.bool dn))
 res:∃u0 u1 u2 u3,wk.heap[w.heap.size+1]? = some (DB u0 u1 u2 u3)
 rd:RD (fun k=>X k∧k<w.heap.size∨w.heap.size+2≤k) wk (.agg #[.int .i64 m,.slice a n c,.int .i64 la,.bool dn]) d
theorem Stt.new (h:RD X w (.agg #[.int .i64 m,.slice a n c,.int .i64 la,.bool dn]) d):Stt X w ((w.alloc (DB (.int .i64 m) (.slice a n c) (.int .i64 la) (.bool dn))).alloc (DB (.int .i64 0) (.slice none 0 0) (.int .i64 0) (.bool false))) d m a n c la dn:=by
 obtain⟨h1,h2,h3,h4⟩:=boxes_in w (DB (.int .i64 m) (.slice a n c) (.int .i64 la) (.bool dn)) (DB (.int .i64 0) (.slice none 0 0) (.int .i64 0) (.bool false))
 exact⟨h1,by omega,h2,⟨_,_,_,_,h3⟩,(h.narrow.nw h1).mono fun k hk=>.inl hk⟩
theorem Stt.on (h:Stt X w wk d m a n c la dn) (hn:Nw wk w'):Stt X w w' d m a n c la dn:=by
 obtain⟨u0,u1,u2,u3,hr⟩:=h.res
 exact⟨h.nw.trans hn,Nat.le_trans h.lt hn.size,hn.at_ h.box,⟨u0,u1,u2,u3,hn.at_ hr⟩,h.rd.nw hn⟩
theorem Stt.fresh (h:Stt X w wk d m a n c la dn):∀k,wk.heap.size≤k→(X k∧k<w.heap.size∨w.heap.size+2≤k):=fun _k hk=>.inr (Nat.le_trans h.lt hk)
theorem Stt.step (h:Stt X w wk d m a n c la dn) (hd:RD (fun k=>X k∧k<w.heap.size∨w.heap.size+2≤k) w' (.agg #[.int .i64 m',.slice a' n' c',.int .i64 la',.bool dn']) d') (hn:Nw wk w') :
  ∃w2,((((w'.setCell ⟨w.heap.size,0,none⟩ (.int .i64 m')).setCell ⟨w.heap.size,1,none⟩ (.slice a' n' c')).setCell ⟨w.heap.size,2,none⟩ (.int .i64 la')).setCell ⟨w.heap.size,3,none⟩ (.bool dn'))=w2∧Stt X w w2 d' m' a' n' c' la' dn'∧Only (fun k=>k=w.heap.size) w' w2:=by
 have h2:=h.on hn
 obtain⟨u0,u1,u2,u3,hr⟩:=h2.res
 have hO:=only_set4 w' w.heap.size (.int .i64 m') (.slice a' n' c') (.int .i64 la') (.bool dn')
 refine⟨_,rfl,⟨h2.nw.trans' hO (fun k hk e=>by omega),Nat.le_trans h2.lt hO.size,heap_set4 h2.box _ _ _ _,⟨u0,u1,u2,u3,hO.at_ hr (by omega)⟩,hd.put hO (fun k hk _ e=>?_)⟩,hO⟩
 rcases hk with hk|hk
 ·omega
 ·omega
theorem Stt.fin (hX:∀k,w.heap.size≤k→X k) (h:Stt X w wk d m a n c la dn) :
  ∃w4,((((wk.setCell ⟨w.heap.size+1,0,none⟩ (.int .i64 m)).setCell ⟨w.heap.size+1,1,none⟩ (.slice a n c)).setCell ⟨w.heap.size+1,2,none⟩ (.int .i64 la)).setCell ⟨w.heap.size+1,3,none⟩ (.bool dn))=w4∧RD X w4 (.agg #[.int .i64 m,.slice a n c,.int .i64 la,.bool dn]) d∧Nw w w4∧Only (fun k=>k=w.heap.size+1) wk w4∧w4.heap[w.heap.size+1]? = some (DB (.int .i64 m) (.slice a n c) (.int .i64 la) (.bool dn)):=by
 obtain⟨u0,u1,u2,u3,hr⟩:=h.res
 refine set4_end h.nw (by omega) hr h.rd (fun k hk=>?_)
 rcases hk with hk|hk
 ·exact⟨hk.1,by omega⟩
 ·exact⟨hX k (by omega),by omega⟩
theorem Stt.cells (h:Stt X w wk d m a n c la dn):wk.cell? ⟨w.heap.size,0,none⟩=some (.int .i64 m)∧wk.cell? ⟨w.heap.size,1,none⟩=some (.slice a n c)∧wk.cell? ⟨w.heap.size,2,none⟩=some (.int .i64 la)∧wk.cell? ⟨w.heap.size,3,none⟩=some (.bool dn) ∧
  wk.frozen? ⟨w.heap.size,0,none⟩=false∧wk.frozen? ⟨w.heap.size,1,none⟩=false∧wk.frozen? ⟨w.heap.size,2,none⟩=false∧wk.frozen? ⟨w.heap.size,3,none⟩=false:=box_cells h.box
theorem Stt.rcells (h:Stt X w wk d m a n c la dn):∃u0 u1 u2 u3,wk.cell? ⟨w.heap.size+1,0,none⟩=some u0∧wk.cell? ⟨w.heap.size+1,1,none⟩=some u1∧wk.cell? ⟨w.heap.size+1,2,none⟩=some u2∧wk.cell? ⟨w.heap.size+1,3,none⟩=some u3 ∧
  wk.frozen? ⟨w.heap.size+1,0,none⟩=false∧wk.frozen? ⟨w.heap.size+1,1,none⟩=false∧wk.frozen? ⟨w.heap.size+1,2,none⟩=false∧wk.frozen? ⟨w.heap.size+1,3,none⟩=false:=by
 obtain⟨u0,u1,u2,u3,hr⟩:=h.res
 exact⟨u0,u1,u2,u3,box_cells hr⟩
theorem dFile_ok (h:RD X w v d) (hX:∀k,w.heap.size≤k→X k){s:Str}(hs:s.length≤9223372036854775807){u:Value}{l:List UInt8}(hl:Bs w u l) (hll:l.length≤16777216){x:Int}(hr:d.fresh s l=(d',x)) :
  Calls Tryz.prog 123 #[v,.string ⟨s.toArray⟩,u] w (RDE X w d' x):=by
 obtain⟨ua,uc,rfl,-⟩:=hl.len
 have HL:=zH hl
 clear hl
 obtain⟨d1,x1,hr1⟩:∃d1 x1,d.gone s=(d1,x1):=⟨_,_,rfl⟩
 have HR:=zH hr
 have HR1:=zH hr1
 clear hr hr1
 obtain⟨m0,a0,n0,c0,la0,dn0,rfl⟩:=h.parts
 have S0:=zH (Stt.new h)
 have HX:=zH hX
 clear h hX
 obtain⟨w0,hw0⟩:=zN ((w.alloc (DB (.int .i64 m0) (.slice a0 n0 c0) (.int .i64 la0) (.bool dn0))).alloc (DB (.int .i64 0) (.slice none 0 0) (.int .i64 0) (.bool false)))
 rw[hw0]at S0
 unfold DB at hw0
 go_enter Tryz.func123,Tryz.ntmps123
 go_upto_region 1 with fail
 clear hw0
 obtain⟨b0,b1,b2,b3,-⟩:=S0.out.cells
 have R:=zH (dGone_ok S0.out.rd S0.out.fresh HR1.out)
 go_wp2_with fail
 refine R.out.mono ?_
 rintro e y1 ⟨m1,a1,n1,c1,la1,dn1,rfl,dd,nn⟩
 obtain⟨w1,hw1,s1,o1⟩:=S0.out.step dd nn
 have S1:=zH s1
 have NN1:=zH nn
 have O1:=zH o1
 obtain⟨-,-,-,-,g0,g1,g2,g3⟩:=(S0.out.on nn).cells
 obtain⟨b0,b1,b2,b3,-⟩:=(S0.out.on nn).cells
 clear R dd nn s1 o1
 go_upto_if 16 with fail
 (try rw[hw1])
 clear hw1 b0 b1 b2 b3 g0 g1 g2 g3
 by_cases h1:x1=0
 case neg =>
  have q1:(x1==0)=false:=by simpa using h1
  obtain⟨rfl,hx⟩:d1=d'∧x1=x:=by
   have:=HR.out
   simp only[Dsk.fresh,andThen,HR1.out,h1,if_false]at this
   exact Prod.mk.inj this
  have HXX:=zH hx
  clear h1 hx
  obtain⟨b0,b1,b2,b3,-⟩:=S1.out.cells
  obtain⟨u0,u1,u2,u3,r0,r1,r2,r3,f0,f1,f2,f3⟩:=S1.out.rcells
  go_wp2
  obtain⟨w9,hw9,D9,N9,-,B9⟩:=S1.out.fin HX.out
  rw[hw9]
  obtain⟨e0,e1,e2,e3,-⟩:=box_cells B9
  exact bodyPost_ret (v:=.tuple #[.agg #[.int .i64 m1,.slice a1 n1 c1,.int .i64 la1,.bool dn1],.int .i64 x1]) (by simp[results,Tryz.results123,go_sem,e0,e1,e2,e3]) rfl ⟨m1,a1,n1,c1,la1,dn1,by rw[HXX.out],D9,N9⟩
 subst h1
 obtain⟨d2,x2,hr2⟩:∃d2 x2,d1.append s l=(d2,x2):=⟨_,_,rfl⟩
 have HR2:=zH hr2
 clear hr2
 obtain⟨b0,b1,b2,b3,-⟩:=S1.out.cells
 have R:=zH (S1.out.rd.append S1.out.fresh hs (HL.out.nw S1.out.nw) hll HR2.out)
 go_wp2_with fail
 refine R.out.mono ?_
 rintro e y2 ⟨m2,a2,n2,c2,la2,dn2,rfl,dd,nn⟩
 obtain⟨w2,hw2,s2,o2⟩:=S1.out.step dd nn
 have S2:=zH s2
 have NN2:=zH nn
 have O2:=zH o2
 obtain⟨-,-,-,-,g0,g1,g2,g3⟩:=(S1.out.on nn).cells
 obtain⟨b0,b1,b2,b3,-⟩:=(S1.out.on nn).cells
 clear R dd nn s2 o2
 go_upto_if 25 with fail
 (try rw[hw2])
 clear hw2 b0 b1 b2 b3 g0 g1 g2 g3
 by_cases h1:x2=0
 case neg =>
  have q1:(x2==0)=false:=by simpa using h1
  obtain⟨rfl,hx⟩:d2=d'∧x2=x:=by
   have:=HR.out
   simp only[Dsk.fresh,andThen,HR1.out,HR2.out,h1,if_false,if_true]at this
   exact Prod.mk.inj this
  have HXX:=zH hx
  clear h1 hx
  obtain⟨b0,b1,b2,b3,-⟩:=S2.out.cells
  obtain⟨u0,u1,u2,u3,r0,r1,r2,r3,f0,f1,f2,f3⟩:=S2.out.rcells
  go_wp2
  obtain⟨w9,hw9,D9,N9,-,B9⟩:=S2.out.fin HX.out
  rw[hw9]
  obtain⟨e0,e1,e2,e3,-⟩:=box_cells B9
  exact bodyPost_ret (v:=.tuple #[.agg #[.int .i64 m2,.slice a2 n2 c2,.int .i64 la2,.bool dn2],.int .i64 x2]) (by simp[results,Tryz.results123,go_sem,e0,e1,e2,e3]) rfl ⟨m2,a2,n2,c2,la2,dn2,by rw[HXX.out],D9,N9⟩
 subst h1
 obtain⟨d3,x3,hr3⟩:∃d3 x3,d2.sync s=(d3,x3):=⟨_,_,rfl⟩
 have HR3:=zH hr3
 clear hr3
 obtain⟨b0,b1,b2,b3,-⟩:=S2.out.cells
 have R:=zH (S2.out.rd.sync S2.out.fresh HR3.out)
 go_wp2_with fail
 refine R.out.mono ?_
 rintro e y3 ⟨m3,a3,n3,c3,la3,dn3,rfl,dd,nn⟩
 obtain⟨w3,hw3,s3,o3⟩:=S2.out.step dd nn
 have S3:=zH s3
 have NN3:=zH nn
 have O3:=zH o3
 obtain⟨-,-,-,-,g0,g1,g2,g3⟩:=(S2.out.on nn).cells
 obtain⟨b0,b1,b2,b3,-⟩:=(S2.out.on nn).cells
 clear R dd nn s3 o3
 go_upto_region 6 with fail
 (try rw[hw3])
 clear hw3 b0 b1 b2 b3 g0 g1 g2 g3
 obtain⟨rfl,hx⟩:d3=d'∧x3=x:=by
  have:=HR.out
  simp only[Dsk.fresh,andThen,HR1.out,HR2.out,HR3.out,if_true]at this
  exact Prod.mk.inj this
 have HXX:=zH hx
 clear hx
 obtain⟨b0,b1,b2,b3,-⟩:=S3.out.cells
 obtain⟨u0,u1,u2,u3,r0,r1,r2,r3,f0,f1,f2,f3⟩:=S3.out.rcells
 go_wp2
 obtain⟨w9,hw9,D9,N9,-,B9⟩:=S3.out.fin HX.out
 rw[hw9]
 obtain⟨e0,e1,e2,e3,-⟩:=box_cells B9
 exact bodyPost_ret (v:=.tuple #[.agg #[.int .i64 m3,.slice a3 n3 c3,.int .i64 la3,.bool dn3],.int .i64 x3]) (by simp[results,Tryz.results123,go_sem,e0,e1,e2,e3]) rfl ⟨m3,a3,n3,c3,la3,dn3,by rw[HXX.out],D9,N9⟩
theorem dInstall_ok (h:RD X w v d) (hX:∀k,w.heap.size≤k→X k){u:Value}{l:List Pc}(hl:Pcs w u l){x:Int}(hr:d.install l=(d',x)) :
  Calls Tryz.prog 70 #[v,u] w (RDE X w d' x):=by
 obtain⟨ua,uc,rfl,-⟩:=hl.elem
 have HL:=zH hl
 clear hl
 have HR:=zH hr
 clear hr
 obtain⟨m0,a0,n0,c0,la0,dn0,rfl⟩:=h.parts
 have S0:=zH (Stt.new h)
 have HX:=zH hX
 clear h hX
 obtain⟨w0,hw0⟩:=zN ((w.alloc (DB (.int .i64 m0) (.slice a0 n0 c0) (.int .i64 la0) (.bool dn0))).alloc (DB (.int .i64 0) (.slice none 0 0) (.int .i64 0) (.bool false)))
 rw[hw0]at S0
 unfold DB at hw0
 go_enter Tryz.func70,Tryz.ntmps70
 go_upto_region 1 with fail
 clear hw0
 cases hrt:rightL l
 case false =>
  obtain⟨rfl,hx⟩:d=d'∧(14:Int)=x:=by
   have:=HR.out
   simp only[Dsk.install,hrt,Bool.false_eq_true,if_false]at this
   exact Prod.mk.inj this
  have HXX:=zH hx
  have MN:=zH (dManifest_no (HL.out.nw S0.out.nw) hrt)
  clear hx hrt
  go_wp2_with fail
  refine MN.out.mono ?_
  rintro e w1 ⟨rfl,nn⟩
  have S1:=zH (S0.out.on nn)
  clear nn MN
  obtain⟨b0,b1,b2,b3,-⟩:=S1.out.cells
  obtain⟨u0,u1,u2,u3,r0,r1,r2,r3,f0,f1,f2,f3⟩:=S1.out.rcells
  go_wp2
  obtain⟨w9,hw9,D9,N9,-,B9⟩:=S1.out.fin HX.out
  rw[hw9]
  obtain⟨e0,e1,e2,e3,-⟩:=box_cells B9
  exact bodyPost_ret (v:=.tuple #[.agg #[.int .i64 m0,.slice a0 n0 c0,.int .i64 la0,.bool dn0],.int .i64 14]) (by simp[results,Tryz.results70,go_sem,e0,e1,e2,e3]) rfl ⟨m0,a0,n0,c0,la0,dn0,by rw[HXX.out],D9,N9⟩
 have MN:=zH (dManifest_ok (HL.out.nw S0.out.nw) hrt)
 have HML:Hid ((manifestB l).length≤6209):=zH (manifestB_len hrt)
 obtain⟨mb,hmb⟩:=zN (manifestB l)
 rw[hmb]at MN HML
 have HMB:=zH hmb
 have HRT:=zH hrt
 clear hmb hrt
 go_wp2_with fail
 refine MN.out.mono ?_
 rintro e w01 ⟨mv,rfl,mb1,nn,-⟩
 obtain⟨ma,mc,rfl,-⟩:=mb1.len
 have MB:=zH mb1.rd
 have N01:=zH nn
 have S00:=zH (S0.out.on nn)
 clear mb1 nn MN
 obtain⟨d1,x1,hr1⟩:∃d1 x1,d.fresh nextS mb=(d1,x1):=⟨_,_,rfl⟩
 have HR1:=zH hr1
 clear hr1
 obtain⟨b0,b1,b2,b3,-⟩:=S00.out.cells
 have R:=zH (dFile_ok (s:=nextS) S00.out.rd S00.out.fresh (by decide) MB.out (by have:=HML.out;omega) HR1.out)
 go_wp2_with fail
 refine R.out.mono ?_
 rintro e y1 ⟨m1,a1,n1,c1,la1,dn1,rfl,dd,nn⟩
 obtain⟨w1,hw1,s1,o1⟩:=S00.out.step dd nn
 have S1:=zH s1
 have NN1:=zH nn
 have O1:=zH o1
 obtain⟨-,-,-,-,g0,g1,g2,g3⟩:=(S00.out.on nn).cells
 obtain⟨b0,b1,b2,b3,-⟩:=(S00.out.on nn).cells
 clear R dd nn s1 o1
 go_upto_if 24 with fail
 (try rw[hw1])
 clear hw1 b0 b1 b2 b3 g0 g1 g2 g3
 by_cases h1:x1=0
 case neg =>
  have q1:(x1==0)=false:=by simpa using h1
  obtain⟨rfl,hx⟩:d1=d'∧x1=x:=by
   have:=HR.out
   simp only[Dsk.install,HRT.out,HMB.out,andThen,HR1.out,h1,if_false,if_true]at this
   exact Prod.mk.inj this
  have HXX:=zH hx
  clear h1 hx
  obtain⟨b0,b1,b2,b3,-⟩:=S1.out.cells
  obtain⟨u0,u1,u2,u3,r0,r1,r2,r3,f0,f1,f2,f3⟩:=S1.out.rcells
  go_wp2
  obtain⟨w9,hw9,D9,N9,-,B9⟩:=S1.out.fin HX.out
  rw[hw9]
  obtain⟨e0,e1,e2,e3,-⟩:=box_cells B9
  exact bodyPost_ret (v:=.tuple #[.agg #[.int .i64 m1,.slice a1 n1 c1,.int .i64 la1,.bool dn1],.int .i64 x1]) (by simp[results,Tryz.results70,go_sem,e0,e1,e2,e3]) rfl ⟨m1,a1,n1,c1,la1,dn1,by rw[HXX.out],D9,N9⟩
 subst h1
 obtain⟨d2,x2,hr2⟩:∃d2 x2,d1.rename nextS manifestS=(d2,x2):=⟨_,_,rfl⟩
 have HR2:=zH hr2
 clear hr2
 obtain⟨b0,b1,b2,b3,-⟩:=S1.out.cells
 have R:=zH (S1.out.rd.rename S1.out.fresh (n:=nextS) (m:=manifestS) (by decide) HR2.out)
 go_wp2_with fail
 refine R.out.mono ?_
 rintro e y2 ⟨m2,a2,n2,c2,la2,dn2,rfl,dd,nn⟩
 obtain⟨w2,hw2,s2,o2⟩:=S1.out.step dd nn
 have S2:=zH s2
 have NN2:=zH nn
 have O2:=zH o2
 obtain⟨-,-,-,-,g0,g1,g2,g3⟩:=(S1.out.on nn).cells
 obtain⟨b0,b1,b2,b3,-⟩:=(S1.out.on nn).cells
 clear R dd nn s2 o2
 go_upto_region 7 with fail
 (try rw[hw2])
 clear hw2 b0 b1 b2 b3 g0 g1 g2 g3
 obtain⟨rfl,hx⟩:d2=d'∧x2=x:=by
  have:=HR.out
  simp only[Dsk.install,HRT.out,HMB.out,andThen,HR1.out,HR2.out,if_true]at this
  exact Prod.mk.inj this
 have HXX:=zH hx
 clear hx
 obtain⟨b0,b1,b2,b3,-⟩:=S2.out.cells
 obtain⟨u0,u1,u2,u3,r0,r1,r2,r3,f0,f1,f2,f3⟩:=S2.out.rcells
 go_wp2
 obtain⟨w9,hw9,D9,N9,-,B9⟩:=S2.out.fin HX.out
 rw[hw9]
 obtain⟨e0,e1,e2,e3,-⟩:=box_cells B9
 exact bodyPost_ret (v:=.tuple #[.agg #[.int .i64 m2,.slice a2 n2 c2,.int .i64 la2,.bool dn2],.int .i64 x2]) (by simp[results,Tryz.results70,go_sem,e0,e1,e2,e3]) rfl ⟨m2,a2,n2,c2,la2,dn2,by rw[HXX.out],D9,N9⟩
end
end Go.Proofs.YtkbenkldfehhlaaGreatDoor
