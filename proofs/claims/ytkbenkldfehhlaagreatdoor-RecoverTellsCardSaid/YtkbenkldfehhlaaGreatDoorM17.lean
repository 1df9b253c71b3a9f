/-
  Texts merged by a program of this claim's: Ref01A, CrcPlain, Ref01B, Ref01C, Ref01D, GetPlain.
-/
import Derived.Test.YtkbenkldfehhlaaGreatDoorM7
import Derived.Test.YtkbenkldfehhlaaGreatDoorLogIS
import Derived.Laws.CopyOwn
import Derived.Test.YtkbenkldfehhlaaGreatDoorM6
import Derived.Test.YtkbenkldfehhlaaGreatDoorM1
namespace Go.Proofs.YtkbenkldfehhlaaGreatDoor
open Go Go.RowKit Go.Sort
set_option maxRecDepth 100000
set_option maxHeartbeats 1600000
theorem own1 {w:World}{g o n c:Nat}{cs:List Value}(h:Vec 1 w (.slice (some ⟨g,o,none⟩) n c) n cs) (j:Nat) (hj:j<n):∃u,w.cell? ⟨g,o+j,none⟩=some u∧cs[j]? = some u∧w.frozen? ⟨g,o+j,none⟩=false:=by
 obtain⟨h0,⟨h,-⟩|⟨g',o',cap',he,h1,h2,h3,h4,h5,h6⟩⟩:=h
 ·cases h
 ·obtain⟨⟨rfl,rfl⟩,rfl⟩:(g=g'∧o=o')∧c=cap':=by simpa using he
  have a:=h6 j (by omega)
  have b:=h5 j (by omega)
  exact⟨_,a,List.getElem?_eq_getElem (by omega),b⟩
theorem own_some {w:World}{v:Value}{n:Nat}{cs:List Value}(h:Vec 1 w v n cs) (hn:n≠0):∃g o c,v=.slice (some ⟨g,o,none⟩) n c:=by
 obtain⟨h0,⟨h,hz⟩|⟨g',o',cap',he,-⟩⟩:=h
 ·exact absurd hz hn
 ·exact⟨g',o',cap',he⟩
theorem Varint_ok (n:Nat) (hn:n<18446744073709551616) (w:World) :
  Calls Tryz.prog 129 #[.int .u64 n] w (NewB w (uintB n)):=by
 obtain⟨i0,hi,hz0,hz1,hz2⟩:=info_parts infoU8
 have HI:=zH hi
 have HZ0:=zH hz0
 have HZ1:=zH hz1
 have HZ2:=zH hz2
 clear hi hz0 hz1 hz2
 have hm:(n:Int) % 128=((n % 128:Nat):Int):=by omega
 have hd:(n:Int) / 128=((n / 128:Nat):Int):=by omega
 have hlen:(uintB n).length≤10:=uintB_len n 10 (by omega) (Nat.lt_trans hn (by decide))
 have HLEN:=zH hlen
 have hq:((n % 128:Nat):Int) % 256=((n % 128:Nat):Int):=by omega
 have H1:Hid (n / 128=0→uintB n=[]++[UInt8.ofNat (n % 128)]):=zH (fun h=>by rw[uintB_small (by omega),Nat.mod_eq_of_lt (by omega)];rfl)
 have H2:Hid (0<n / 128→uintB n=[]++UInt8.ofNat (n % 128+128)::uintB (n / 128)):=zH (fun h=>uintB_big (by omega))
 have hb:n % 128<128:=by omega
 have hm2:n / 128<18446744073709551616:=by omega
 generalize n % 128=b0 at *
 generalize n / 128=m0 at *
 have e0:(UInt8.ofNat b0).toNat=b0:=by simp;omega
 have V0:Hid (Vec 1 (w.alloc (.cells #[.int .u8 b0] 5)) (.slice (some ⟨w.heap.size,0,none⟩) 1 1) 1 (([]++[UInt8.ofNat b0]).map u8)):=zH (vec_lit w 5 1 1 _ _ (0,0) (by simp[u8,e0]) rfl (by decide) (fun j _ h=>by simp at h))
 have N0:Hid (Nw w (w.alloc (.cells #[.int .u8 b0] 5))):=zH ((Nw.refl w).alloc _)
 clear hlen e0 hn
 go_enter Tryz.func129,Tryz.ntmps129
 go_wp2
 go_loopw [3,4] (fun v r wr=>∃(pre:List UInt8) (b m:Nat),b<128∧r=.int .u64 m∧m<18446744073709551616∧Vec 1 wr v (pre.length+1) ((pre++[UInt8.ofNat b]).map u8)∧Nw w wr∧(∀g,v.ownBlock=some g→w.heap.size≤g)∧(m=0→uintB n=pre++[UInt8.ofNat b])∧(0<m→uintB n=pre++UInt8.ofNat (b+128)::uintB m)) (fun _ r _=>(intOf r).toNat)
 case atStart=>exact⟨[],b0,m0,hb,rfl,hm2,V0.out,N0.out,fun g hg=>by cases hg;exact Nat.le_refl _,H1.out,H2.out⟩
 case round =>
  clear hm hd hq
  obtain⟨pre,b,m,hb,rfl,hm,hv,hw,hown,h1,h2⟩:=hrel
  obtain⟨g,o,c,rfl⟩:=own_some hv (by omega)
  have HV:=zH hv
  have HW:=zH hw
  have HO:=zH hown
  have H1:=zH h1
  have H2:=zH h2
  obtain⟨pl,hpl⟩:=zN (pre.length)
  rw[hpl]at HV ⊢
  have HPL:=zH hpl
  clear hv hw hown h1 h2 V0 N0 hpl
  by_cases h0:0<m
  case neg =>
   obtain rfl:m=0:=by omega
   have E1:=zH (H1.out rfl)
   clear H1 H2
   go_wp2
   go_ret
   refine⟨_,rfl,?_,HW.out,HO.out⟩
   rw[E1.out,List.length_append,HPL.out]
   exact HV.out
  have hpl9:pl+1<10:=by
   have h3:=H2.out h0
   have h4:=HLEN.out
   have h5:=uintB_pos m
   rw[h3,List.length_append,List.length_cons,HPL.out]at h4
   omega
  obtain⟨u,hc,hcu,hf⟩:=own1 HV.out pl (by omega)
  have hu:u=.int .u8 b:=by
   have:((pre++[UInt8.ofNat b]).map u8)[pl]? = some (.int .u8 b):=by
    rw[List.map_append,List.getElem?_append_right (by rw[List.length_map,HPL.out];exact Nat.le_refl _),List.length_map,HPL.out,Nat.sub_self]
    have e:(UInt8.ofNat b).toNat=b:=by simp;omega
    simp[u8,e]
   rw[this]at hcu
   exact (Option.some.inj hcu).symm
  subst hu
  have hw1:IntKind.i64.wrap (((pl+1:Nat):Int)-1)=(pl:Int):=by rw[show ((pl+1:Nat):Int)-1=(pl:Int) by omega];exact IntWalk.i64_in _ (by omega)
  have hw2:((b:Int)+128) % 256=(b:Int)+128:=by omega
  have hmod:(m:Int) % 128=((m % 128:Nat):Int):=by omega
  have hdiv:(m:Int) / 128=((m / 128:Nat):Int):=by omega
  have hq2:((m % 128:Nat):Int) % 256=((m % 128:Nat):Int):=by omega
  go_upto_region 6 with fail
  clear hc hcu hf hw1 hw2
  have eb:(UInt8.ofNat (b+128)).toNat=b+128:=by simp;omega
  have V6:=HV.out.set pl (by rw[List.length_map,List.length_append,HPL.out];simp) (.int .u8 ((b:Int)+128))
  have ecs:((pre++[UInt8.ofNat b]).map u8).set pl (.int .u8 ((b:Int)+128))=(pre++[UInt8.ofNat (b+128)]).map u8:=by
   rw[List.map_append,List.map_append,List.set_append_right _ _ (by rw[List.length_map,HPL.out];exact Nat.le_refl _),List.length_map,HPL.out,Nat.sub_self]
   simp only[List.map_cons,List.map_nil,List.set_cons_zero,u8,eb]
   rw[show ((b+128:Nat):Int)=(b:Int)+128 by omega]
  rw[ecs]at V6
  have hgo:=HO.out g rfl
  have n6:Nw w (wr.setCell ⟨g,o+pl,none⟩ (.int .u8 ((b:Int)+128))):=Only.setCell (S:=fun _=>False) HW.out (fun h=>absurd h (by simp only;omega)) _
  obtain⟨W6,hW6⟩:=zN (wr.setCell ⟨g,o+pl,none⟩ (.int .u8 ((b:Int)+128)))
  rw[hW6]at V6 n6 ⊢
  have hq7:m % 128<128:=by omega
  obtain⟨q,hq⟩:=zN (m % 128)
  have G1:Hid (m / 128=0→uintB m=[UInt8.ofNat q]):=zH (fun h=>by rw[←hq,uintB_small (by omega),Nat.mod_eq_of_lt (by omega)])
  have G2:Hid (0<m / 128→uintB m=UInt8.ofNat (q+128)::uintB (m / 128)):=zH (fun h=>by rw[←hq];exact uintB_big (by omega))
  rw[hq]at hmod hq2 hq7
  have eq_:(UInt8.ofNat q).toNat=q:=by simp;omega
  obtain⟨pre2,hpre2⟩:=zN (pre++[UInt8.ofNat (b+128)])
  obtain⟨NQ,hNQ⟩:=zN ([UInt8.ofNat q].map u8)
  obtain⟨MQ,hMQ⟩:=zN (pre2.map u8)
  rw[hpre2,hMQ]at V6
  have HPRE:=zH hpre2
  have HNQ:=zH hNQ
  have HMQ:=zH hMQ
  have hNQ1:∀u∈NQ,u.oneCell'=true:=fun u hu=>by rw[←hNQ]at hu;obtain⟨y,_,rfl⟩:=List.mem_map.1 hu;exact u8_cell y
  have V7:Hid (Vec 1 (W6.alloc (.cells #[.int .u8 q] 5)) (.slice (some ⟨g,o,none⟩) (pl+1) c) (pl+1) MQ):=zH (V6.nw ((Nw.refl W6).alloc _))
  have S7:Hid (SrcV 1 (W6.alloc (.cells #[.int .u8 q] 5)) (.slice (some ⟨W6.heap.size,0,none⟩) 1 1) 1 NQ):=zH (by
   rw[←hNQ]
   have:=src_lit W6 5 (0,0) 1 1 1 ([UInt8.ofNat q].map u8) rfl (Nat.le_refl _) (by decide)
   simp only[List.map_cons,List.map_nil,u8,eq_]at this ⊢
   exact this)
  have N6:=zH n6
  have hdl:m / 128<m:=by omega
  have hml:m / 128<18446744073709551616:=by omega
  obtain⟨m2,hm2⟩:=zN (m / 128)
  rw[hm2]at hdiv G1 G2 hdl hml
  have E2:=zH (H2.out h0)
  clear V6 n6 hW6 ecs eb hq hm2 HV HW H1 H2 hpre2 hNQ hMQ
  go_wp2_with (at_builtin;refine wpList_append_vec rfl _ _ 79 rfl 5 i0 (.int .u8 0) 1 1 Tryz.underlying79 HI.out HZ0.out HZ1.out HZ2.out rfl (by decide) rfl rfl V7.out S7.out ?c1 ?c2 ?c3 ?_)
  case c1=>exact hNQ1
  case c2=>unfold maxLen;omega
  case c3=>omega
  intro v' w2 k1 k2 k3
  have K1:=zH k1
  have K2:=zH k2
  have K3:=zH k3
  clear k1 k2 k3
  go_wp2
  go_roundw
  case rel =>
   have hN:=((N6.out.alloc (.cells #[.int .u8 q] 5)).trans' K2.out (fun k hk e=>by have h5:g=k:=Option.some.inj e;omega))
   refine⟨pre2,q,m2,hq7,by go_num,hml,?_,hN,?_,?_,?_⟩
   ·have:=K1.out
    rw[←HMQ.out,←HNQ.out,←List.map_append]at this
    rw[←HPRE.out,List.length_append,HPL.out]at *
    exact this
   ·intro x hx
    rcases K3.out with h|h
    ·rw[h]at hx;cases hx;exact hgo
    ·have h6:=h x hx
     have h7:=N6.out.size
     have h8:(W6.alloc (.cells #[.int .u8 q] 5)).heap.size=W6.heap.size+1:=by simp
     omega
   ·intro h;rw[E2.out,G1.out h,←HPRE.out];simp
   ·intro h;rw[E2.out,G2.out h,←HPRE.out];simp
  case measure=>simp[intOf];omega
theorem sizeU8' (W:World):(sizeOf (Tryz.prog.elem 79)).run Tryz.prog W=.ok 1 W:=by kernel_rfl
theorem elemU8':Tryz.prog.underlying 79=some (.slice (Tryz.prog.elem 79)):=by kernel_rfl
theorem bs_pos {w:World}{a:Option Addr}{n c:Nat}{l:List UInt8}(h:Bs w (.slice a n c) l) (h0:0<l.length):∃ad,a=some ad∧∀j v,(l.map u8)[j]? = some v→w.cell? (ad.add j)=some v:=by
 rcases h with ⟨a0,hv,rfl⟩|⟨g,o,cap,hv,h1,h2,h3,h4⟩
 ·simp at h0
 ·injection hv with e1 e2 e3
  refine⟨⟨g,o,none⟩,e1,fun j v hj=>?_⟩
  obtain⟨hl,he⟩:=List.getElem?_eq_some_iff.1 hj
  rw[List.length_map]at hl
  rw[addr_add,h4 j hl,←he,List.getElem_map]
theorem after_ok {w:World}{va vb:Value}{a b:List UInt8}(ha:Bs w va a) (hb:Bs w vb b) (hl:a.length+b.length≤16000000) :
  Calls Tryz.prog 145 #[va,vb] w (NewB w (a++b)):=by
 obtain⟨aa,ac,rfl,-⟩:=ha.len
 obtain⟨ba,bc,rfl,-⟩:=hb.len
 have HA:=zH ha
 have HB:=zH hb
 have PA:=zH (bs_pos ha)
 obtain⟨la,hla⟩:=zN (a.length)
 obtain⟨lb,hlb⟩:=zN (b.length)
 have HLA:=zH hla
 have HLB:=zH hlb
 rw[hla,hlb]at hl ⊢
 obtain⟨i0,hi,hz0,hz1,hz2⟩:=info_parts infoU8
 have hr:=run_makeSlice (P:=Tryz.prog) w 79 5 i0 _ Tryz.underlying79 hi hz0 .i64 .i64 ((la+lb:Nat):Int) ((la+lb:Nat):Int) (by omega) (by omega) (by rw[hz1];omega) (by rw[hz2];omega) (by omega)
 have en:(((la+lb:Nat):Int)).toNat=la+lb:=Int.toNat_natCast _
 rw[hz1,en,Nat.mul_one]at hr
 obtain⟨Z,hZ⟩:∃Z:List Value,(madeCells (Value.int .u8 0).cells (la+lb))=Z.toArray:=⟨_,Array.toArray_toList.symm⟩
 have hZl:Z.length=la+lb:=by
  have:(madeCells (Value.int .u8 0).cells (la+lb)).size=la+lb:=by unfold madeCells;simp
  rw[hZ]at this
  simpa using this
 rw[hZ]at hr
 obtain⟨XA,hXA⟩:=zN (a.map u8)
 obtain⟨XB,hXB⟩:=zN (b.map u8)
 have hxal:XA.length=la:=by rw[←hXA,List.length_map,hla]
 have hxbl:XB.length=lb:=by rw[←hXB,List.length_map,hlb]
 have HXA:=zH hXA
 have HXB:=zH hXB
 have HZL:=zH hZl
 have HXL:=zH (And.intro hxal hxbl)
 have hsz:(Tryz.prog.info? 5).map (·.size)=some 1:=by kernel_rfl
 obtain⟨g,hg⟩:=zN (w.heap.size)
 have HG:=zH hg
 obtain⟨W1,hW1⟩:=zN (w.alloc (.cells Z.toArray 5 (0,0)))
 have B1:Hid (W1.heap[g]? = some (.cells Z.toArray 5 (0,0))):=zH (by rw[←hW1,←hg];exact heap_alloc_new w _)
 have N1:Hid (Nw w W1):=zH (by rw[←hW1];exact (Nw.refl w).alloc _)
 have hmk:(Instr.makeSlice 79 (.int .i64 ((la:Int)+(lb:Int))) (.int .i64 ((la:Int)+(lb:Int)))).run Tryz.prog w=.ok (.slice (some ⟨g,0,none⟩) (la+lb) (la+lb)) W1:=by
  rw[←hW1,←hg]
  rw[show ((la+lb:Nat):Int)=(la:Int)+(lb:Int) by omega]at hr
  exact hr
 have hwl:IntKind.i64.wrap ((la:Int)+(lb:Int))=(la:Int)+(lb:Int):=IntWalk.i64_in _ (by omega)
 obtain⟨p2,c2,hp2,hsl⟩:∃p2 c2,(0<lb→p2=some ⟨g,la,none⟩)∧∀W,(Instr.slice 79 (.slice (some ⟨g,0,none⟩) (la+lb) (la+lb)) (some (.int .i64 la)) none none).run Tryz.prog W=.ok (.slice p2 lb c2) W:=by
  refine⟨if la+lb=la then some ⟨g,0,none⟩ else some ⟨g,la,none⟩,la+lb-la,fun h=>by rw[if_neg (by omega)],fun W=>?_⟩
  rw[run_slice_l W 79 (some ⟨g,0,none⟩) (la+lb) (la+lb) elemU8' .i64 la (by omega) (by omega),sizeU8']
  simp only[Result.andThen,Int.toNat_natCast,sliced,Nat.mul_one,Option.map_some,addr_add,Nat.zero_add]
  rw[show la+lb-la=lb by omega]
 clear ha hb hr en hZ hZl hXA hXB hla hlb hxal hxbl hi hz0 hz1 hz2 hg hW1
 go_enter Tryz.func145,Tryz.ntmps145
 go_wp2_with (refine wpList_copy_splice rfl _ _ 79 79 rfl 5 Tryz.underlying79 hsz (some ⟨g,0,none⟩) aa (la+lb) (la+lb) la ac rfl rfl g 0 Z 5 B1.out XA ?c1 ?c2 ?c3 ?c4 g w ?c5 (Nat.le_refl _) ?_)
 case c1=>rw[HXL.out.1];exact (Nat.min_eq_left (by omega)).symm
 case c2 =>
  intro h0
  rw[HXL.out.1]at h0
  obtain⟨ad,h1,h2⟩:=PA.out (by rw[HLA.out];exact h0)
  first
   |exact⟨rfl,ad,h1,fun j v hj=>N1.out.cell (h2 j v (by rw[HXA.out];exact hj))⟩
   |exact⟨ad,h1,fun j v hj=>N1.out.cell (h2 j v (by rw[HXA.out];exact hj))⟩
 case c3=>rw[HXL.out.1,HZL.out];omega
 case c4=>intro v hv;rw[←HXA.out]at hv;obtain⟨x,-,rfl⟩:=List.mem_map.1 hv;rfl
 case c5=>rw[←HG.out];exact N1.out.below
 intro W2 HG2 hB2
 have N2:Hid (Nw w W2):=zH (Nw.of_below (by rw[HG.out];exact hB2))
 clear hB2 hmk
 have PB:=zH (bs_pos (HB.out.nw N2.out))
 go_wp2_with (refine wpList_copy_splice rfl _ _ 79 79 rfl 5 Tryz.underlying79 hsz p2 ba lb c2 lb bc rfl rfl g la (splice Z 0 XA) 5 HG2.out XB ?c1 ?c2 ?c3 ?c4 g w ?c5 (Nat.le_refl _) ?_)
 case c1=>rw[HXL.out.2];exact (Nat.min_self _).symm
 case c2 =>
  intro h0
  rw[HXL.out.2]at h0
  obtain⟨ad,h1,h2⟩:=PB.out (by rw[HLB.out];exact h0)
  exact⟨hp2 h0,ad,h1,fun j v hj=>h2 j v (by rw[HXB.out];exact hj)⟩
 case c3=>rw[length_splice _ _ _ (by rw[HXL.out.1,HZL.out];omega),HXL.out.2,HZL.out];omega
 case c4=>intro v hv;rw[←HXB.out]at hv;obtain⟨x,-,rfl⟩:=List.mem_map.1 hv;rfl
 case c5=>rw[←HG.out];exact N2.out.below
 intro W3 HG3 hB3
 have N3:Hid (Nw w W3):=zH (Nw.of_below (by rw[HG.out];exact hB3))
 clear hB3 hsl
 go_wp2
 go_ret
 have hfin:splice (splice Z 0 XA) la XB=(a++b).map u8:=by
  unfold splice
  rw[List.map_append,HXA.out,HXB.out]
  have h1:=HXL.out.1
  have h2:=HXL.out.2
  have h3:=HZL.out
  simp only[List.take_zero,List.nil_append,Nat.zero_add]
  rw[List.take_left' h1,List.drop_eq_nil_of_le (by rw[List.length_append,List.length_drop];omega),List.append_nil]
 have h3:=HG3.out
 rw[hfin]at h3
 refine⟨_,rfl,?_,N3.out,fun x hx=>by cases hx;rw[HG.out];exact Nat.le_refl _⟩
 have hlen:(a++b).length=la+lb:=by rw[List.length_append,HLA.out,HLB.out]
 rw[hlen]
 refine⟨by rw[List.length_map,hlen,Nat.mul_one],.inr ⟨g,0,la+lb,rfl,Nat.le_refl _,by unfold maxLen;omega,lt_of_block h3,fun j hj=>?_,fun j hj=>?_,fun j hj=>?_⟩⟩
 ·simp[World.cell?,h3]
  rw[HLA.out,HLB.out];omega
 ·simp[World.frozen?,h3]
 ·simp[World.cell?,h3]
theorem NewB.bs {w w':World}{e:Ending}{l:List UInt8}(h:NewB w l e w'):∃v,e=.returned v∧Bs w' v l∧Nw w w'∧∀g,v.ownBlock=some g→w.heap.size≤g:=by
 obtain⟨v,h1,h2,h3,h4⟩:=h
 exact⟨v,h1,Vec.rd (f:=u8) h2,h3,h4⟩
theorem rUint_ok {w:World}{v:Value}{l:List UInt8}(hv:Bs w v l) (n:Nat) (hn:n<18446744073709551616) (hl:l.length≤15000000) :
  Calls Tryz.prog 154 #[v,.int .u64 n] w (NewB w (l++uintB n)):=by
 obtain⟨a,c,rfl,-⟩:=hv.len
 have HV:=zH hv
 have hlen:(uintB n).length≤10:=uintB_len n 10 (by omega) (Nat.lt_trans hn (by decide))
 have HLEN:=zH hlen
 have VI:=zH (Varint_ok n hn w)
 clear hv hlen
 go_enter Tryz.func154,Tryz.ntmps154
 go_wp2_with fail
 refine VI.out.mono ?_
 rintro e w1 h1
 obtain⟨v1,rfl,b1,n1,-⟩:=h1.bs
 obtain⟨a1,c1,rfl,-⟩:=b1.len
 have AF:=after_ok (HV.out.nw n1) b1 (by have:=HLEN.out;omega)
 obtain⟨L,hL⟩:=zN (l++uintB n)
 rw[hL]at AF
 have HL:=zH hL
 clear hL
 have AF:=zH AF
 have N1:=zH n1
 clear h1 b1 n1 VI
 go_wp2_with fail
 refine AF.out.mono ?_
 rintro e w2 ⟨v2,rfl,b2,n2,f2⟩
 have B2:=zH b2
 have N2:=zH n2
 have F2:=zH f2
 obtain⟨a2,c2,rfl,-⟩:=b2.len
 clear b2 n2 f2 AF
 go_wp2
 go_ret
 exact⟨.slice a2 L.length c2,rfl,by rw[HL.out];exact B2.out,N1.out.trans N2.out,fun g hg=>Nat.le_trans N1.out.size (F2.out g hg)⟩
end Go.Proofs.YtkbenkldfehhlaaGreatDoor
namespace Go.Proofs.YtkbenkldfehhlaaGreatDoor
open Go
theorem xor_div2 (a b:Nat):(a ^^^ b) / 2=a / 2 ^^^ b / 2:=by
 have:=Nat.xor_div_two_pow (a:=a) (b:=b) (n:=1)
 simpa using this
theorem xor_mod2 (a b:Nat):(a ^^^ b) % 2=(a % 2) ^^^ (b % 2):=by
 have:=Nat.xor_mod_two_pow (a:=a) (b:=b) (n:=1)
 simpa using this
theorem two_eq {a b:Nat}(h1:a / 2=b / 2) (h2:a % 2=b % 2):a=b:=by omega
def halved (n:Nat):Nat:=if n % 2=1 then n / 2 ^^^ 3988292384 else n / 2
theorem halved_xor (a b:Nat):halved (a ^^^ b)=halved a ^^^ halved b:=by
 unfold halved
 rw[xor_div2,xor_mod2]
 have ha:a % 2=0∨a % 2=1:=by omega
 have hb:b % 2=0∨b % 2=1:=by omega
 rcases ha with ha|ha <;> rcases hb with hb|hb <;> rw[ha,hb]
 ·simp
 ·simp only[Nat.zero_xor,if_true,if_neg (show ¬ (0:Nat)=1 by decide)]
  ac_rfl
 ·simp only[Nat.xor_zero,if_true,if_neg (show ¬ (0:Nat)=1 by decide)]
  ac_rfl
 ·simp only[Nat.xor_self,if_true,if_neg (show ¬ (0:Nat)=1 by decide)]
  rw[show a / 2 ^^^ 3988292384 ^^^ (b / 2 ^^^ 3988292384)=a / 2 ^^^ b / 2 ^^^ (3988292384 ^^^ 3988292384) by ac_rfl,Nat.xor_self,Nat.xor_zero]
theorem halved_two (x:Nat):halved (2*x)=x:=by unfold halved;rw[if_neg (by omega)];omega
theorem bit_xor (x b:Nat) (hb:b<2):2*x+b=2*x ^^^ b:=by
 refine two_eq ?_ ?_
 ·rw[xor_div2,show b / 2=0 by omega,Nat.xor_zero];omega
 ·rw[xor_mod2,show 2*x % 2=0 by omega,Nat.zero_xor];omega
theorem halved_bit (x b:Nat) (hb:b<2):halved (2*x+b)=x ^^^ halved b:=by rw[bit_xor x b hb,halved_xor,halved_two]
def halvedN:Nat→Nat→Nat
 |0,r=>r
 |k+1,r=>halvedN k (halved r)
theorem halvedN_xor:∀(k a b:Nat),halvedN k (a ^^^ b)=halvedN k a ^^^ halvedN k b
 |0,_,_=>rfl
 |k+1,a,b=>by rw[halvedN,halved_xor,halvedN_xor k];rfl
theorem halvedN_zero:∀k,halvedN k 0=0
 |0=>rfl
 |k+1=>halvedN_zero k
theorem halvedN_add:∀(k j r:Nat),halvedN (k+j) r=halvedN j (halvedN k r)
 |0,j,r=>by rw[Nat.zero_add];rfl
 |k+1,j,r=>by rw[show k+1+j=(k+j)+1 by omega];exact halvedN_add k j (halved r)
theorem halvedN_bit (k x b:Nat) (hb:b<2):halvedN (k+1) (2*x+b)=halvedN k x ^^^ halvedN (k+1) b:=by
 show halvedN k (halved (2*x+b))=_
 rw[halved_bit x b hb,halvedN_xor];rfl
theorem halfN_eq (r:Nat):halfN r=halvedN 4 r:=by
 obtain⟨q,b0,b1,b2,b3,h0,h1,h2,h3,rfl⟩:∃q b0 b1 b2 b3:Nat,b0<2∧b1<2∧b2<2∧b3<2∧r=2*(2*(2*(2*q+b3)+b2)+b1)+b0:=
  ⟨r / 16,r % 2,r / 2 % 2,r / 4 % 2,r / 8 % 2,by omega,by omega,by omega,by omega,by omega⟩
 have e0:(2*(2*(2*(2*q+b3)+b2)+b1)+b0) / 16=q:=by omega
 have s0:(2*(2*(2*(2*q+b3)+b2)+b1)+b0) / 2 ^ 0 % 2=b0:=by simp;omega
 have s1:(2*(2*(2*(2*q+b3)+b2)+b1)+b0) / 2 ^ 1 % 2=b1:=by simp;omega
 have s2:(2*(2*(2*(2*q+b3)+b2)+b1)+b0) / 2 ^ 2 % 2=b2:=by simp;omega
 have s3:(2*(2*(2*(2*q+b3)+b2)+b1)+b0) / 2 ^ 3 % 2=b3:=by simp;omega
 unfold halfN bitStep
 rw[s0,s1,s2,s3,e0]
 rw[halvedN_bit 3 _ b0 h0,halvedN_bit 2 _ b1 h1,halvedN_bit 1 _ b2 h2,halvedN_bit 0 _ b3 h3]
 have c0:b0=0∨b0=1:=by omega
 have c1:b1=0∨b1=1:=by omega
 have c2:b2=0∨b2=1:=by omega
 have c3:b3=0∨b3=1:=by omega
 have z:∀k,halvedN k 0=0:=halvedN_zero
 have o1:halvedN (0+1) 1=3988292384 / 2 ^ (3-3):=rfl
 have o2:halvedN (1+1) 1=3988292384 / 2 ^ (3-2):=rfl
 have o3:halvedN (2+1) 1=3988292384 / 2 ^ (3-1):=rfl
 have o4:halvedN (3+1) 1=3988292384 / 2 ^ (3-0):=rfl
 have q0:halvedN 0 q=q:=rfl
 generalize 3988292384 / 2 ^ (3-0)=p0 at *
 generalize 3988292384 / 2 ^ (3-1)=p1 at *
 generalize 3988292384 / 2 ^ (3-2)=p2 at *
 generalize 3988292384 / 2 ^ (3-3)=p3 at *
 rcases c0 with rfl|rfl <;> rcases c1 with rfl|rfl <;> rcases c2 with rfl|rfl <;> rcases c3 with rfl|rfl <;> simp only[z,o1,o2,o3,o4,q0,Nat.xor_zero,if_true,if_neg (show ¬ (0:Nat)=1 by decide)] <;> (try ac_rfl)
def bitsN:Nat→Nat→List Nat
 |0,_=>[]
 |k+1,c=>c % 2::bitsN k (c / 2)
theorem bitsN_lt:∀k c,∀b∈bitsN k c,b<2
 |0,_,b,h=>by cases h
 |k+1,c,b,h=>by
  rcases List.mem_cons.1 h with rfl|h
  ·omega
  ·exact bitsN_lt k _ b h
theorem bitsN_len:∀k c,(bitsN k c).length=k
 |0,_=>rfl
 |k+1,c=>by rw[bitsN,List.length_cons,bitsN_len k]
def runB' (r:Nat) (l:List Nat):Nat:=l.foldl (fun r b=>halved (r ^^^ b)) r
theorem crun_cons (r b:Nat) (l:List Nat):runB' r (b::l)=runB' (halved (r ^^^ b)) l:=rfl
theorem run_app (r:Nat) (l k:List Nat):runB' r (l++k)=runB' (runB' r l) k:=List.foldl_append
theorem run_bits:∀(k r c:Nat),c<2 ^ k→halvedN k (r ^^^ c)=runB' r (bitsN k c)
 |0,r,c,h=>by
  obtain rfl:c=0:=by simpa using h
  rw[Nat.xor_zero];rfl
 |k+1,r,c,h=>by
  rw[bitsN,crun_cons,←run_bits k _ (c / 2) (by rw[Nat.pow_succ]at h;omega)]
  show halvedN k (halved (r ^^^ c))=_
  congr 1
  have e:c=2*(c / 2) ^^^ c % 2:=by rw[←bit_xor _ _ (by omega)];omega
  rw[halved_xor,halved_xor]
  conv=>lhs;rw[e]
  rw[halved_xor,halved_two]
  ac_rfl
def bitsOf (l:List UInt8):List Nat:=l.flatMap fun c=>bitsN 8 c.toNat
theorem crc_run:∀(l:List UInt8) (r:Nat),crcGo r l=runB' r (bitsOf l)
 |[],_=>rfl
 |c::l,r=>by
  show crcGo (halfN (halfN (r ^^^ c.toNat))) l=runB' r (bitsN 8 c.toNat++bitsOf l)
  rw[run_app,crc_run l,←run_bits 8 r c.toNat c.toNat_lt,halfN_eq,halfN_eq,←halvedN_add]
theorem run_xor:∀(l:List Nat) (r s:Nat),runB' (r ^^^ s) l=runB' r l ^^^ halvedN l.length s
 |[],_,_=>rfl
 |b::l,r,s=>by
  rw[crun_cons,crun_cons,show r ^^^ s ^^^ b=(r ^^^ b) ^^^ s by ac_rfl,halved_xor,run_xor l]
  rfl
def flipN:Nat→List Nat→List Nat
 |0,l=>l
 |_+1,[]=>[]
 |m+1,b::l=>(1 ^^^ b)::flipN m l
theorem flip_len:∀m l,(flipN m l).length=l.length
 |0,_=>rfl
 |_+1,[]=>rfl
 |m+1,b::l=>by rw[flipN,List.length_cons,List.length_cons,flip_len m]
def ones (m:Nat):Nat:=2 ^ m-1
theorem ones_succ (m:Nat):ones (m+1)=2*ones m+1:=by
 have:0<2 ^ m:=Nat.pow_pos (by decide)
 unfold ones;rw[Nat.pow_succ];omega
theorem run_flip:∀(l:List Nat) (m:Nat),runB' (ones m) l=runB' 0 (flipN m l) ^^^ ones (m-l.length)
 |[],m=>by
  cases m with
  |zero=>rfl
  |succ m=>show ones (m+1)=0 ^^^ ones (m+1-0);rw[Nat.zero_xor];rfl
 |b::l,0=>by
  have e:ones (0-(b::l).length)=0:=by rw[Nat.zero_sub];rfl
  rw[e,Nat.xor_zero];rfl
 |b::l,m+1=>by
  rw[crun_cons,ones_succ,flipN,crun_cons,Nat.zero_xor,bit_xor _ _ (by omega),Nat.xor_assoc,halved_xor,halved_two]
  rw[run_xor l (ones m),run_flip l m]
  have e:halved (1 ^^^ b)=0 ^^^ halved (1 ^^^ b):=(Nat.zero_xor _).symm
  conv=>rhs;rw[e,run_xor (flipN m l) 0]
  rw[flip_len,List.length_cons,Nat.add_sub_add_right]
  ac_rfl
theorem run_last (b:Nat) (l:List Nat) (hb:b<2):runB' 0 (b::l)=(if b=1 then halvedN (l.length+1) 1 else 0) ^^^ runB' 0 l:=by
 rw[crun_cons,Nat.zero_xor]
 have e:halved b=0 ^^^ halved b:=(Nat.zero_xor _).symm
 rw[e,run_xor l 0]
 have c:b=0∨b=1:=by omega
 rcases c with rfl|rfl
 ·rw[if_neg (by decide),show halved 0=0 from rfl,halvedN_zero,Nat.xor_comm]
 ·rw[if_pos rfl,Nat.xor_comm];rfl
theorem crc_flip (l:List UInt8):crcN l=4294967295-(runB' 0 (flipN 32 (bitsOf l)) ^^^ ones (32-8*l.length)):=by
 have hl:(bitsOf l).length=8*l.length:=by
  unfold bitsOf
  rw[List.length_flatMap]
  simp only[bitsN_len]
  rw[List.map_const',List.sum_replicate_nat]
  omega
 unfold crcN
 rw[crc_run,show (4294967295:Nat)=ones 32 from rfl,run_flip,hl]
open Go.RowKit Go.Sort
set_option maxRecDepth 100000
set_option maxHeartbeats 1600000
theorem rBlob_ok {w:World}{v u:Value}{l b:List UInt8}(hv:Bs w v l) (hb:Bs w u b) (hl:l.length+b.length≤14000000) :
  Calls Tryz.prog 156 #[v,u] w (NewB w (l++(uintB b.length++b))):=by
 obtain⟨a,c,rfl,-⟩:=hv.len
 obtain⟨ba,bc,rfl,-⟩:=hb.len
 have HB:=zH hb
 obtain⟨n,hn⟩:=zN (b.length)
 have HN:=zH hn
 rw[hn]at hl HB ⊢
 have UI:=rUint_ok hv n (by omega) (by omega)
 obtain⟨L1,hL1⟩:=zN (l++uintB n)
 rw[hL1]at UI
 have UI:=zH UI
 have HL1:=zH hL1
 have hlen:(uintB n).length≤10:=uintB_len n 10 (by omega) (Nat.lt_trans (by omega:n<18446744073709551616) (by decide))
 have HLEN:=zH hlen
 have hw:(n:Int) % 18446744073709551616=(n:Int):=by omega
 have hw2:IntKind.u64.wrap (n:Int)=(n:Int):=by rw[IntKind.wrap_u64];omega
 clear hv hb hn hlen hL1
 go_enter Tryz.func156,Tryz.ntmps156
 go_wp2_with fail
 refine UI.out.mono ?_
 rintro e w1 h1
 obtain⟨v1,rfl,b1,n1,-⟩:=h1.bs
 obtain⟨a1,c1,rfl,-⟩:=b1.len
 have AF:=after_ok b1 (HB.out.nw n1) (by rw[←HL1.out,List.length_append,HN.out];have:=HLEN.out;omega)
 obtain⟨L,hL⟩:=zN (L1++b)
 rw[hL]at AF
 have HL:=zH hL
 clear hL
 have AF:=zH AF
 have N1:=zH n1
 clear h1 b1 n1 UI
 go_wp2_with fail
 refine AF.out.mono ?_
 rintro e w2 ⟨v2,rfl,b2,n2,f2⟩
 have B2:=zH b2
 have N2:=zH n2
 have F2:=zH f2
 obtain⟨a2,c2,rfl,-⟩:=b2.len
 clear b2 n2 f2 AF
 go_wp2
 go_ret
 exact⟨.slice a2 L.length c2,rfl,by rw[←List.append_assoc,HL1.out,HL.out];exact B2.out,N1.out.trans N2.out,fun g hg=>Nat.le_trans N1.out.size (F2.out g hg)⟩
theorem halved_lt {n:Nat}(h:n<4294967296):halved n<4294967296:=by
 unfold halved
 split
 ·exact Nat.xor_lt_two_pow (n:=32) (by omega) (by decide)
 ·omega
theorem halvedN_lt:∀(k:Nat){n:Nat},n<4294967296→halvedN k n<4294967296
 |0,_,h=>h
 |k+1,_,h=>halvedN_lt k (halved_lt h)
theorem halvedN_succ (k r:Nat):halvedN (k+1) r=halved (halvedN k r):=by rw[halvedN_add];rfl
theorem halved_ok (n:Nat) (hn:n<4294967296) (w:World):Calls Tryz.prog 194 #[.int .u32 n] w fun e w'=>e=.returned (.int .u32 (halved n))∧w=w':=by
 have hd:(n:Int) / 2=((n / 2:Nat):Int):=by omega
 have hx:=xor_u32 (n / 2) 3988292384 (by omega) (by decide)
 by_cases h1:n % 2=1
 ·have hm:(n:Int) % 2=1:=by omega
  have E:Hid (halved n=n / 2 ^^^ 3988292384):=zH (by unfold halved;rw[if_pos h1])
  obtain⟨q,hq⟩:=zN (n / 2)
  rw[hq]at hd hx E
  have hx:bits .xor .u32 (q:Int) 3988292384=((q ^^^ 3988292384:Nat):Int):=hx
  clear hq h1
  go_enter Tryz.func194,Tryz.ntmps194
  go_wp2
  go_ret
  refine⟨ret1 ?_,rfl⟩
  rw[E.out]
 ·have hm:(n:Int) % 2=0:=by omega
  have E:Hid (halved n=n / 2):=zH (by unfold halved;rw[if_neg h1])
  obtain⟨q,hq⟩:=zN (n / 2)
  rw[hq]at hd E
  clear hq h1 hx
  go_enter Tryz.func194,Tryz.ntmps194
  go_wp2
  go_ret
  exact⟨by rw[E.out];rfl,rfl⟩
set_option maxHeartbeats 3200000
theorem bitsN_at:∀(k c i:Nat) (_hi:i<k),(bitsN k c)[i]? = some (c / 2 ^ i % 2)
 |0,_,_,hi=>by omega
 |k+1,c,0,_=>by simp[bitsN]
 |k+1,c,i+1,hi=>by
  rw[bitsN,List.getElem?_cons_succ,bitsN_at k (c / 2) i (by omega),Nat.div_div_eq_div_mul,Nat.pow_succ,Nat.mul_comm 2]
theorem bitsOf_len (l:List UInt8):(bitsOf l).length=8*l.length:=by
 unfold bitsOf
 rw[List.length_flatMap]
 simp only[bitsN_len]
 rw[List.map_const',List.sum_replicate_nat]
 omega
theorem bitsOf_at:∀(l:List UInt8) (i:Nat) (hi:i / 8<l.length),(bitsOf l)[i]? = some (l[i / 8].toNat / 2 ^ (i % 8) % 2)
 |[],i,hi=>by simp at hi
 |c::l,i,hi=>by
  show (bitsN 8 c.toNat++bitsOf l)[i]? = _
  by_cases h:i<8
  ·rw[List.getElem?_append_left (by rw[bitsN_len];exact h),bitsN_at 8 _ i h]
   have e:i / 8=0:=by omega
   have e2:i % 8=i:=by omega
   simp only[e,e2,List.getElem_cons_zero]
  ·rw[List.getElem?_append_right (by rw[bitsN_len];omega),bitsN_len]
   have e:i / 8=(i-8) / 8+1:=by omega
   have e2:i % 8=(i-8) % 8:=by omega
   rw[bitsOf_at l (i-8) (by simp only[List.length_cons]at hi;omega)]
   simp only[e,e2,List.getElem_cons_succ]
theorem flip_at:∀(m:Nat) (l:List Nat) (i:Nat),(flipN m l)[i]? = (l[i]?).map fun b=>if i<m then 1 ^^^ b else b
 |0,l,i=>by simp[flipN]
 |m+1,[],i=>by simp[flipN]
 |m+1,b::l,0=>by simp[flipN]
 |m+1,b::l,i+1=>by
  rw[flipN,List.getElem?_cons_succ,List.getElem?_cons_succ,flip_at m l i]
  simp
def gath (M u:Nat):Nat:=2 ^ u*ones (M-u)
theorem mul_xor (t a b:Nat):2 ^ t*a ^^^ 2 ^ t*b=2 ^ t*(a ^^^ b):=by
 rw[Nat.mul_comm,Nat.mul_comm _ b,Nat.mul_comm _ (a ^^^ b),←Nat.shiftLeft_eq,←Nat.shiftLeft_eq,←Nat.shiftLeft_eq,Nat.shiftLeft_xor_distrib]
theorem gath_step {M u:Nat}(h:u<M):gath M (u+1) ^^^ 2 ^ u=gath M u:=by
 have e:M-u=(M-(u+1))+1:=by omega
 unfold gath
 rw[e,ones_succ,bit_xor _ 1 (by decide),←mul_xor,Nat.mul_one,Nat.pow_succ,Nat.mul_assoc]
theorem gath_skip {M u:Nat}(h:¬ u<M):gath M (u+1)=gath M u:=by
 unfold gath
 rw[show M-(u+1)=0 by omega,show M-u=0 by omega]
 simp[ones]
theorem ones_lt (m:Nat):ones m<2 ^ m:=by
 have:0<2 ^ m:=Nat.pow_pos (by decide)
 unfold ones;omega
theorem gath_lt {M u:Nat}(h:M≤32):gath M u<4294967296:=by
 unfold gath
 by_cases hu:u≤M
 ·have h1:=ones_lt (M-u)
  have h2:2 ^ u*ones (M-u)<2 ^ u*2 ^ (M-u):=(Nat.mul_lt_mul_left (Nat.pow_pos (by decide))).2 h1
  rw[←Nat.pow_add,show u+(M-u)=M by omega]at h2
  have h3:2 ^ M≤2 ^ 32:=Nat.pow_le_pow_right (by decide) h
  have h4:(2:Nat) ^ 32=4294967296:=by decide
  omega
 ·rw[show M-u=0 by omega];simp[ones]
theorem runB_lt:∀(l:List Nat){r:Nat},r<4294967296→(∀b∈l,b<2)→runB' r l<4294967296
 |[],_,h,_=>h
 |b::l,r,h,hb=>by
  rw[crun_cons]
  have:=hb b (by simp)
  exact runB_lt l (halved_lt (Nat.xor_lt_two_pow (n:=32) h (by omega))) fun x hx=>hb x (by simp[hx])
theorem flip_lt {m:Nat}{l:List Nat}(h:∀b∈l,b<2):∀b∈flipN m l,b<2:=fun b hb=>by
 obtain⟨i,hi,rfl⟩:=List.getElem_of_mem hb
 have h1:=flip_at m l i
 rw[List.getElem?_eq_getElem hi]at h1
 have hl:i<l.length:=by rw[flip_len]at hi;exact hi
 rw[List.getElem?_eq_getElem hl]at h1
 simp only[Option.map_some,Option.some.injEq]at h1
 rw[h1]
 have h2:=h _ (List.getElem_mem hl)
 split
 ·exact Nat.xor_lt_two_pow (n:=1) (by decide) h2
 ·exact h2
theorem bitsOf_lt (l:List UInt8):∀b∈bitsOf l,b<2:=fun b hb=>by
 obtain⟨c,-,h⟩:=List.mem_flatMap.1 hb
 exact bitsN_lt 8 _ b h
def sumAt (l:List UInt8) (v:Nat):Nat:=ones (32-8*l.length) ^^^ runB' 0 ((flipN 32 (bitsOf l)).drop v)
theorem sumAt_lt (l:List UInt8) (v:Nat):sumAt l v<4294967296:=by
 unfold sumAt
 refine Nat.xor_lt_two_pow (n:=32) ?_ (runB_lt _ (by decide) fun b hb=>flip_lt (bitsOf_lt l) b (List.mem_of_mem_drop hb))
 exact Nat.lt_of_lt_of_le (ones_lt _) (Nat.pow_le_pow_right (by decide) (by omega))
theorem sumAt_end (l:List UInt8):sumAt l (8*l.length)=ones (32-8*l.length):=by
 unfold sumAt
 rw[List.drop_eq_nil_of_le (by rw[flip_len,bitsOf_len];exact Nat.le_refl _)]
 exact Nat.xor_zero _
theorem sumAt_step (l:List UInt8) (i:Nat) (hi:i<8*l.length) :
  sumAt l i=if (l[i / 8]'(by omega)).toNat / 2 ^ (i % 8) % 2=1↔i<32 then sumAt l (i+1) else sumAt l (i+1) ^^^ halvedN (8*l.length-i) 1:=by
 have hlen:i<(flipN 32 (bitsOf l)).length:=by rw[flip_len,bitsOf_len];exact hi
 have hfa:=flip_at 32 (bitsOf l) i
 rw[bitsOf_at l i (by omega)]at hfa
 simp only[Option.map_some]at hfa
 obtain⟨b,hb⟩:=zN ((l[i / 8]'(by omega)).toNat / 2 ^ (i % 8) % 2)
 rw[hb]at hfa ⊢
 have hb2:b=0∨b=1:=by omega
 have hget:(flipN 32 (bitsOf l))[i]=if i<32 then 1 ^^^ b else b:=by
  rw[List.getElem?_eq_getElem hlen]at hfa
  exact Option.some.inj hfa
 unfold sumAt
 rw[List.drop_eq_getElem_cons hlen,hget]
 have hdl:((flipN 32 (bitsOf l)).drop (i+1)).length+1=8*l.length-i:=by rw[List.length_drop,flip_len,bitsOf_len];omega
 obtain⟨R,hR⟩:=zN ((flipN 32 (bitsOf l)).drop (i+1))
 rw[hR]at hdl ⊢
 by_cases h32:i<32
 ·rw[if_pos h32]
  rcases hb2 with rfl|rfl
  ·rw[if_neg (by simp[h32]),run_last _ _ (by decide),if_pos (by decide),hdl]
   ac_rfl
  ·rw[if_pos (by simp[h32]),run_last _ _ (by decide),if_neg (by decide),Nat.zero_xor]
 ·rw[if_neg h32]
  rcases hb2 with rfl|rfl
  ·rw[if_pos (by simp[h32]),run_last _ _ (by decide),if_neg (by decide),Nat.zero_xor]
  ·rw[if_neg (by simp[h32]),run_last _ _ (by decide),if_pos rfl,hdl]
   ac_rfl
theorem sumAt_crc (l:List UInt8):4294967295-sumAt l 0=crcN l:=by
 rw[crc_flip]
 unfold sumAt
 rw[List.drop_zero,Nat.xor_comm]
theorem two_cast (t:Nat):((2:Int) ^ t)=((2 ^ t:Nat):Int):=(Int.natCast_pow 2 t).symm
theorem two_mod {t:Nat}(h:t<32):(2:Int) ^ t % 4294967296=(2:Int) ^ t:=by
 have hpow:2 ^ t<4294967296:=Nat.lt_of_lt_of_le (Nat.pow_lt_pow_right (by decide) h) (by decide)
 rw[two_cast]
 exact Int.emod_eq_of_lt (Int.natCast_nonneg _) (Int.ofNat_lt.2 hpow)
theorem sumAt_step' {l:List UInt8}{N i:Nat}(hN:8*l.length=N) (h8:i / 8<l.length) (hi:i<N) :
  sumAt l i=if (l[i / 8]'h8).toNat / 2 ^ (i % 8) % 2=1↔i<32 then sumAt l (i+1) else sumAt l (i+1) ^^^ halvedN (N-i) 1:=by
 subst hN
 exact sumAt_step l i hi
theorem rCrc_ok {w:World}{v:Value}{l:List UInt8}(hv:Bs w v l) (hl:l.length≤100000000) :
  Calls Tryz.prog 163 #[v] w fun e w'=>e=.returned (.int .u32 (crcN l))∧w=w':=by
 obtain⟨a,c,rfl,-,-,hel⟩:=hv.elems
 have HE:=zH hel
 obtain⟨n,hn⟩:=zN (l.length)
 have HN:=zH hn
 rw[hn]at hl ⊢
 obtain⟨N,hN⟩:=zN (8*n)
 have hNn:(8:Int)*(n:Int)=(N:Int):=by omega
 have hw8:IntKind.i64.wrap (8*(n:Int))=(N:Int):=by rw[hNn];exact IntWalk.i64_in _ (by omega)
 have hw31:IntKind.i64.wrap ((N:Int)+31)=(N:Int)+31:=IntWalk.i64_in _ (by omega)
 have HNN:=zH hN
 have hN2:N≤800000000:=by omega
 obtain⟨M,hM⟩:=zN (32-N)
 have HM:=zH hM
 have hM32:M≤32:=by omega
 have hg0:gath M 32=0:=by unfold gath;rw[show M-32=0 by omega];rfl
 have HG0:=zH hg0
 clear hv hel hn hN hM hg0
 go_enter Tryz.func163,Tryz.ntmps163
 go_wp2
 go_loopw [3,5] (fun s i wr=>∃(u:Nat) (iv:Int) (sv:Nat),u≤32∧iv=(N:Int)+u-1∧i=.int .i64 iv∧s=.int .u32 sv∧sv=gath M u∧w=wr) (fun _ i _=>((intOf i)-N+1).toNat)
 case atStart=>exact⟨32,(N:Int)+31,0,by omega,by omega,by first|rfl|simp,rfl,HG0.out.symm,rfl⟩
 case round =>
  obtain⟨u,iv,sv,hu,hiv,rfl,rfl,hsv,rfl⟩:=hrel
  have HIV:=zH hiv
  have HSV:=zH hsv
  clear hw31
  by_cases h0:0<u
  case neg =>
   have hlt:¬ (N:Int)≤iv:=by omega
   obtain rfl:u=0:=by omega
   have hwm:IntKind.i64.wrap ((N:Int)-1)=(N:Int)-1:=IntWalk.i64_in _ (by omega)
   have hs0:sv=sumAt l N:=by
    have h1:=sumAt_end l
    rw[HN.out,HNN.out,HM.out]at h1
    rw[h1,hsv]
    unfold gath
    rw[Nat.sub_zero,Nat.pow_zero,Nat.one_mul]
   have HS0:=zH hs0
   clear hsv hs0 hiv
   go_wp2
   go_loopw [3,4,6] (fun s g i wr=>∃(v:Nat) (iv:Int) (sv wt:Nat),v≤N∧iv=(v:Int)-1∧i=.int .i64 iv∧s=.int .u32 sv∧sv=sumAt l v∧g=.int .u32 wt∧wt=halvedN (N-v) 1∧w=wr) (fun _ _ i _=>((intOf i)+1).toNat)
   case atStart=>exact⟨N,(N:Int)-1,sv,1,Nat.le_refl _,rfl,rfl,rfl,HS0.out,rfl,by rw[Nat.sub_self];rfl,rfl⟩
   case round =>
    obtain⟨v,iv2,sv2,wt,hv,hiv2,rfl,rfl,hsv2,rfl,hwt,rfl⟩:=hrel
    have HIV2:=zH hiv2
    have HSV2:=zH hsv2
    have HWT:=zH hwt
    clear hwm hw8 hNn
    by_cases hv0:0<v
    case neg =>
     have hlt2:¬ (0:Int)≤iv2:=by omega
     obtain rfl:v=0:=by omega
     have hc:=sumAt_crc l
     have hsl:=sumAt_lt l 0
     rw[←hsv2]at hc hsl
     have hwc:(4294967295-(sv2:Int)) % 4294967296=((4294967295-sv2:Nat):Int):=by omega
     have HC:=zH hc
     clear hsv2 hiv2 hwt hc
     go_wp2
     go_ret
     exact⟨by rw[←HC.out,show ((4294967295-sv2:Nat):Int)=4294967295-(sv2:Int) by omega];rfl,rfl⟩
    obtain⟨i,rfl⟩:∃i,v=i+1:=⟨v-1,by omega⟩
    obtain rfl:iv2=(i:Int):=by omega
    have hi8:i / 8<l.length:=by rw[HN.out];have:=HNN.out;omega
    have hst:=sumAt_step' (N:=N) (by rw[HN.out];exact HNN.out) hi8 (by omega)
    obtain⟨g,o,rfl,hg,hc0⟩:=HE.out (i / 8) hi8
    have hwl:wt<4294967296:=by rw[hwt];exact halvedN_lt _ (by decide)
    have hsl:sv2<4294967296:=by rw[hsv2];exact sumAt_lt l _
    have HW2:Hid (halved wt=halvedN (N-i) 1):=zH (by rw[hwt,←halvedN_succ];congr 1;omega)
    obtain⟨wt2,hwt2⟩:=zN (halved wt)
    have hwl2:wt2<4294967296:=by rw[←hwt2];exact halved_lt hwl
    have HV:=halved_ok wt hwl w
    rw[hwt2]at HV HW2
    have HV:=zH HV
    rw[←HW2.out,←hsv2]at hst
    obtain⟨cb,hcb⟩:=zN ((l[i / 8]'hi8).toNat)
    have hcbl:cb<256:=by rw[←hcb];exact UInt8.toNat_lt _
    unfold u8 at hc0
    rw[hcb]at hst hc0
    have hq:Int.tdiv (i:Int) 8=((i / 8:Nat):Int):=by rw[Int.tdiv_eq_ediv_of_nonneg (by omega)];omega
    have hr:Int.tmod (i:Int) 8=((i % 8:Nat):Int):=by rw[Int.tmod_eq_emod_of_nonneg (by omega)];omega
    have hq8:i / 8<n:=by rw[HN.out]at hi8;exact hi8
    have hr8:i % 8<8:=by omega
    obtain⟨q8,hq8e⟩:=zN (i / 8)
    obtain⟨r8,hr8e⟩:=zN (i % 8)
    rw[hq8e]at hq hq8 hc0
    rw[hr8e]at hr hr8 hst
    obtain⟨bt,hbt⟩:=zN (cb / 2 ^ r8 % 2)
    rw[hbt]at hst
    obtain⟨sq,hsq⟩:=zN (cb / 2 ^ r8)
    have hsh:(cb:Int) / 2 ^ r8=(sq:Int):=by rw[←hsq];push_cast;rfl
    rw[hsq]at hbt
    have hmd:(sq:Int) % 2=(bt:Int):=by omega
    have hx:=xor_u32 sv2 wt2 hsl hwl2
    have hw3:IntKind.i64.wrap ((i:Int)-1)=(i:Int)-1:=IntWalk.i64_in _ (by omega)
    obtain⟨xs,hxs⟩:=zN (sv2 ^^^ wt2)
    rw[hxs]at hx hst
    have HX:=zH hx
    have HST:=zH hst
    have hb2:bt=0∨bt=1:=by omega
    clear hst hx hcb hi8 hwt2 hwt hsv2 hq8e hr8e hbt hxs hiv2 hsq
    have hiN:i<N:=by omega
    go_wp2_with fail
    refine HV.out.mono ?_
    rintro e w1 ⟨rfl,rfl⟩
    by_cases h32:i<32
    ·have hd1:¬ (32:Int)≤(i:Int):=by omega
     have hd2:¬ 32≤i:=by omega
     rcases hb2 with rfl|rfl
     ·have HS:Hid (xs=sumAt l i):=zH (by rw[HST.out,if_neg (by simp[h32])])
      go_wp2
      go_roundw
      case rel=>exact⟨i,(i:Int)-1,xs,wt2,by omega,rfl,by go_num,by rw[HX.out],HS.out,rfl,HW2.out,by first|rfl|trivial⟩
      case measure=>first|(simp[intOf];done)|(simp[intOf];omega)
     ·have HS:Hid (sv2=sumAt l i):=zH (by rw[HST.out,if_pos (by simp[h32])])
      go_wp2
      go_roundw
      case rel=>exact⟨i,(i:Int)-1,sv2,wt2,by omega,rfl,by go_num,rfl,HS.out,rfl,HW2.out,by first|rfl|trivial⟩
      case measure=>first|(simp[intOf];done)|(simp[intOf];omega)
    ·have hd3:(!decide ((i:Int)<32))=true:=by simp;omega
     have hd1:(32:Int)≤(i:Int):=by omega
     have hd2:32≤i:=by omega
     rcases hb2 with rfl|rfl
     ·have HS:Hid (sv2=sumAt l i):=zH (by rw[HST.out,if_pos (by simp[h32])])
      go_wp2
      go_roundw
      case rel=>exact⟨i,(i:Int)-1,sv2,wt2,by omega,rfl,by go_num,rfl,HS.out,rfl,HW2.out,by first|rfl|trivial⟩
      case measure=>first|(simp[intOf];done)|(simp[intOf];omega)
     ·have HS:Hid (xs=sumAt l i):=zH (by rw[HST.out,if_neg (by simp[h32])])
      go_wp2
      go_roundw
      case rel=>exact⟨i,(i:Int)-1,xs,wt2,by omega,rfl,by go_num,by rw[HX.out],HS.out,rfl,HW2.out,by first|rfl|trivial⟩
      case measure=>first|(simp[intOf];done)|(simp[intOf];omega)
  obtain⟨t,rfl⟩:∃t,u=t+1:=⟨u-1,by omega⟩
  have hge:(N:Int)≤iv:=by omega
  have hw1:IntKind.i64.wrap (iv-1)=iv-1:=IntWalk.i64_in _ (by omega)
  have hsvl:sv<4294967296:=by rw[hsv];exact gath_lt hM32
  by_cases h32:t<M
  case neg =>
   have hi32:¬ iv<32:=by have:=HM.out;omega
   have HS:Hid (sv=gath M t):=zH (by rw[hsv];exact gath_skip h32)
   clear hsv hiv
   go_wp2
   go_roundw
   case rel=>exact⟨t,iv-1,sv,by omega,by have:=HIV.out;omega,by go_num,rfl,HS.out,by first|rfl|trivial⟩
   case measure=>have:=HIV.out;simp[intOf];omega
  have hi32:iv<32:=by have:=HM.out;omega
  have hsub:IntKind.i64.wrap (iv-(N:Int))=(t:Int):=by rw[show iv-(N:Int)=(t:Int) by omega];exact IntWalk.i64_in _ (by omega)
  have ht32:t<32:=by omega
  have hpow:2 ^ t<4294967296:=Nat.lt_of_lt_of_le (Nat.pow_lt_pow_right (by decide) ht32) (by decide)
  have hx:=xor_u32 sv (2 ^ t) hsvl hpow
  have hwp:=two_mod ht32
  have HS:Hid (sv ^^^ 2 ^ t=gath M t):=zH (by rw[hsv];exact gath_step h32)
  have hx2:bits .xor .u32 (sv:Int) ((2:Int) ^ t)=((sv ^^^ 2 ^ t:Nat):Int):=by
   rw[two_cast]
   exact hx
  have HX:=zH hx2
  clear hsv hiv hx hx2
  go_wp2
  go_roundw
  case rel=>exact⟨t,iv-1,sv ^^^ 2 ^ t,by omega,by have:=HIV.out;omega,by go_num,by rw[HX.out],HS.out,by first|rfl|trivial⟩
  case measure=>have:=HIV.out;simp[intOf];omega
end Go.Proofs.YtkbenkldfehhlaaGreatDoor
namespace Go.Proofs.YtkbenkldfehhlaaGreatDoor
set_option maxRecDepth 100000
def weighsL:List UInt8→Nat
 |[]=>0
 |c::l=>(c.toNat % 128+128*weighsL l) % 18446744073709551616
theorem weighs_lt (l:List UInt8):weighsL l<18446744073709551616:=by
 cases l with
 |nil=>show (0:Nat)<_;decide
 |cons c l=>exact Nat.mod_lt _ (by decide)
theorem weighs_uintB (m:Nat):m<18446744073709551616→weighsL (uintB m)=m:=by
 induction m using Nat.strongRecOn with
 |ind m ih =>
  intro hm
  by_cases hs:m<128
  ·rw[uintB_small hs]
   have e:(UInt8.ofNat m).toNat=m:=by simp;omega
   simp only[weighsL,e]
   omega
  ·rw[uintB_big hs]
   have e:(UInt8.ofNat (m % 128+128)).toNat=m % 128+128:=by simp;omega
   simp only[weighsL,e]
   rw[ih (m / 128) (by omega) (by omega)]
   omega
theorem numF_inv:∀(l:List UInt8) (i acc n:Nat) (k:Int),numF i acc l=(n,k)→0<k→i≤9 →
  ∃m j:Nat,l.take j=uintB m∧0<j∧j≤l.length∧n=acc+m*2 ^ (7*i)∧k=(i:Int)+j∧m*2 ^ (7*i)<2 ^ 64∧(0<i→0<m)
 |[],i,acc,n,k,h,hk,_=>by
  simp only[numF,Prod.mk.injEq]at h
  omega
 |c::l,i,acc,n,k,h,hk,hi=>by
  have hc:=c.toNat_lt
  simp only[numF]at h
  split at h
  ·simp only[Prod.mk.injEq]at h;omega
  rename_i h9
  split at h
  ·rename_i h1
   have hi8:i≤8:=by
    rcases Nat.lt_or_ge i 9 with h2|h2
    ·omega
    ·exact absurd ⟨by omega,by omega⟩ h9
   obtain⟨m,j,a1,a2,a3,a4,a5,a6,a7⟩:=numF_inv l (i+1) _ n k h hk (by omega)
   have hm:=a7 (by omega)
   refine⟨c.toNat % 128+128*m,j+1,?_,by omega,by simp only[List.length_cons];omega,?_,by rw[a5];omega,?_,fun _=>by omega⟩
   ·rw[uintB_big (by omega),List.take_succ_cons,a1,show (c.toNat % 128+128*m) / 128=m by omega,show (c.toNat % 128+128*m) % 128+128=c.toNat by omega]
    simp
   ·rw[a4,pow7,Nat.add_mul,Nat.add_assoc,Nat.mul_assoc 128 m,Nat.mul_left_comm 128 m]
   ·rw[pow7]at a6
    obtain⟨t,ht⟩:∃t,2 ^ 64=t*(128*2 ^ (7*i)):=⟨2 ^ (64-7*(i+1)),by rw[←pow7,←Nat.pow_add];congr 1;omega⟩
    have hp:=pow_pos7 i
    have hmt:m<t:=by
     rw[ht]at a6
     exact Nat.lt_of_mul_lt_mul_right a6
    have h2:(m+1)*(128*2 ^ (7*i))≤2 ^ 64:=by rw[ht];exact Nat.mul_le_mul_right _ hmt
    have h3:(c.toNat % 128+128*m)*2 ^ (7*i)<(m+1)*(128*2 ^ (7*i)):=by
     rw[←Nat.mul_assoc]
     exact Nat.mul_lt_mul_of_pos_right (by omega) hp
    omega
  ·rename_i h1
   split at h
   ·simp only[Prod.mk.injEq]at h;omega
   rename_i h0
   simp only[Prod.mk.injEq]at h
   obtain⟨rfl,rfl⟩:=h
   refine⟨c.toNat,1,?_,by omega,by simp,by rw[Nat.mod_eq_of_lt (by omega)],by omega,?_,fun hp=>by omega⟩
   ·rw[uintB_small (by omega)];simp
   ·by_cases h8:i≤8
    ·have h2:2 ^ (7*i)≤2 ^ 56:=Nat.pow_le_pow_right (by decide) (by omega)
     have h3:c.toNat*2 ^ (7*i)≤127*2 ^ 56:=Nat.mul_le_mul (by omega) h2
     have h4:(127:Nat)*2 ^ 56<2 ^ 64:=by decide
     omega
    ·obtain rfl:i=9:=by omega
     have h3:c.toNat*2 ^ (7*9)≤1*2 ^ (7*9):=Nat.mul_le_mul_right _ (by omega)
     have h4:(1:Nat)*2 ^ (7*9)<2 ^ 64:=by decide
     exact Nat.lt_of_le_of_lt h3 h4
theorem numF_zero:∀(l:List UInt8) (i acc:Nat),(numF i acc l).2=0→i≤9→(∀c∈l,128≤c.toNat)∧l.length+i≤9
 |[],i,_,_,hi=>⟨fun c hc=>absurd hc (by simp),by simpa using hi⟩
 |c::l,i,acc,h,hi=>by
  simp only[numF]at h
  split at h
  ·simp at h
  rename_i h9
  split at h
  ·rename_i h1
   have hi8:i≤8:=by
    rcases Nat.lt_or_ge i 9 with h2|h2
    ·omega
    ·exact absurd ⟨by omega,by omega⟩ h9
   obtain⟨a,b⟩:=numF_zero l (i+1) _ h (by omega)
   refine⟨fun x hx=>?_,by simp only[List.length_cons];omega⟩
   rcases List.mem_cons.1 hx with rfl|hx
   ·exact h1
   ·exact a x hx
  ·split at h
   ·simp at h
   ·simp only at h;omega
theorem canon_one:∀(l:List UInt8),(∀c∈l,128≤c.toNat)→∃m,uintB m=l++[1]∧0<m∧m<2*128 ^ l.length
 |[],_=>⟨1,by rw[uintB_small (by omega)];rfl,by omega,by simp⟩
 |c::l,h=>by
  have hc:=c.toNat_lt
  have h1:=h c (by simp)
  obtain⟨m,a,b,d⟩:=canon_one l fun x hx=>h x (by simp[hx])
  refine⟨c.toNat % 128+128*m,?_,by omega,?_⟩
  ·rw[uintB_big (by omega),show (c.toNat % 128+128*m) / 128=m by omega,show (c.toNat % 128+128*m) % 128+128=c.toNat by omega,a]
   simp
  ·rw[List.length_cons,Nat.pow_succ]
   omega
theorem get_found {rest:List UInt8}{k:Nat}(hk:k≤rest.length) (h:uintB (weighsL (rest.take k))=rest.take k):numF 0 0 rest=(weighsL (rest.take k),(k:Int)):=by
 have hw:=weighs_lt (rest.take k)
 have:=numF_uintB (rest.drop k) (weighsL (rest.take k)) 0 0 (by omega) (by simpa using hw) (by omega)
 rw[h,List.take_append_drop,List.length_take,Nat.min_eq_left hk]at this
 simpa using this
theorem get_none {rest:List UInt8}(h:∀k,1≤k→k≤10→k≤rest.length→uintB (weighsL (rest.take k))≠rest.take k):(numF 0 0 rest).2≤0:=by
 rcases Int.lt_or_le 0 (numF 0 0 rest).2 with h1|h1
 ·exfalso
  obtain⟨m,j,a1,a2,a3,-,-,a6,-⟩:=numF_inv rest 0 0 _ _ rfl h1 (by omega)
  simp only[Nat.mul_zero,Nat.pow_zero,Nat.mul_one]at a6
  have hj:j≤10:=by
   have h128:(2:Nat) ^ 64≤128 ^ 10:=by decide
   have h2:=uintB_len m 10 (by omega) (by omega)
   rw[←a1,List.length_take]at h2
   omega
  exact h j a2 hj a3 (by rw[a1,weighs_uintB m a6])
 ·exact h1
theorem get_begin {rest:List UInt8}(_h:(numF 0 0 rest).2≤0):((rest++[1]).length≤10∧uintB (weighsL (rest++[1]))=rest++[1])↔(numF 0 0 rest).2=0:=by
 constructor
 ·rintro ⟨-,h2⟩
  have hw:=weighs_lt (rest++[1])
  have hl:=congrArg List.length h2
  rw[List.length_append,List.length_singleton]at hl
  have:=numF_cut (weighsL (rest++[1])) 0 0 rest.length (by omega) (by simpa using hw) (by omega)
  rw[h2,List.take_left]at this
  rw[this]
 ·intro h0
  obtain⟨a,b⟩:=numF_zero rest 0 0 h0 (by omega)
  obtain⟨m,c1,c2,c3⟩:=canon_one rest a
  have hm:m<18446744073709551616:=by
   have h2:128 ^ rest.length≤128 ^ 9:=Nat.pow_le_pow_right (by decide) (by omega)
   have h3:(2:Nat)*128 ^ 9=18446744073709551616:=by decide
   omega
  refine⟨by rw[List.length_append,List.length_singleton];omega,?_⟩
  rw[←c1,weighs_uintB m hm]
end Go.Proofs.YtkbenkldfehhlaaGreatDoor
