/-
  Texts merged by a program of this claim's: BytesD, ReadA, EventA.
-/
import Derived.Test.YtkbenkldfehhlaaGreatDoorM7
import Derived.Test.YtkbenkldfehhlaaGreatDoorM6
namespace Go.Proofs.YtkbenkldfehhlaaGreatDoor
open Go Go.RowKit Go.Sort
set_option maxRecDepth 100000
set_option maxHeartbeats 1600000
theorem NewB.from {w W w':World}{l:List UInt8}{e:Ending}(hw:Nw w W) (h:NewB W l e w'):NewB w l e w':=by
 obtain⟨v',he,h1,h2,h3⟩:=h
 exact⟨v',he,h1,hw.trans h2,fun g hg=>Nat.le_trans hw.size (h3 g hg)⟩
def GrowB (v:Value) (w:World) (l:List UInt8) (e:Ending) (w':World):Prop:=
 ∃v',e=.returned v'∧Vec 1 w' v' l.length (l.map u8)∧Only (fun k=>v.ownBlock=some k) w w'∧(v'.ownBlock=v.ownBlock∨∀g,v'.ownBlock=some g→w.heap.size≤g)
theorem Seal_ok {w:World}{v:Value}{l:List UInt8}(hv:Bs w v l) (hl:l.length≤99999990) :
  Calls Tryz.prog 128 #[v] w (NewB w (sealB sumB l)):=by
 have HV:=zH hv
 obtain⟨sa,sc,rfl,-⟩:=hv.len
 clear hv
 go_enter Tryz.func128,Tryz.ntmps128
 go_wp2_with fail
 refine (Crc_ok HV.out).mono ?_
 rintro e w1 ⟨rfl,rfl⟩
 have hs:=crcN_lt l
 have hsum:sumB l=[UInt8.ofNat (crcN l / 16777216),UInt8.ofNat (crcN l / 65536),UInt8.ofNat (crcN l / 256),UInt8.ofNat (crcN l)]:=rfl
 have hcells:(#[.int .u8 ((crcN l:Int) / 16777216),.int .u8 ((crcN l:Int) / 65536 % 256),.int .u8 ((crcN l:Int) / 256 % 256),.int .u8 ((crcN l:Int) % 256)]:Array Value)=((sumB l).map u8).toArray:=by
  rw[hsum]
  simp only[List.map_cons,List.map_nil,u8,UInt8.toNat_ofNat']
  congr 1
  rw[show ((crcN l / 16777216 % 2 ^ 8:Nat):Int)=(crcN l:Int) / 16777216 by omega,show ((crcN l / 65536 % 2 ^ 8:Nat):Int)=(crcN l:Int) / 65536 % 256 by omega,
   show ((crcN l / 256 % 2 ^ 8:Nat):Int)=(crcN l:Int) / 256 % 256 by omega,show ((crcN l % 2 ^ 8:Nat):Int)=(crcN l:Int) % 256 by omega]
 have HS:=zH hcells
 have HL:Hid ((sumB l).length=4):=zH rfl
 have HQ:Hid (sealB sumB l=l++sumB l):=zH rfl
 clear hsum hcells
 generalize crcN l=s at *
 generalize sumB l=sm at *
 go_wp2_with fail
 rw[HS.out]
 have hn0:Nw w (w.alloc (.cells (sm.map u8).toArray 5 (0,0))):=(Nw.refl w).alloc _
 have hn1:=hn0.alloc (.cells #[.slice sa l.length sc,.slice (some ⟨w.heap.size,0,none⟩) 4 4] 79 (0,0))
 have s2:Bs (w.alloc (.cells (sm.map u8).toArray 5 (0,0))) (.slice (some ⟨w.heap.size,0,none⟩) 4 4) sm:=by
  have:=rd_lit (f:=u8) w 5 (0,0) sm _ 4 rfl (by rw[HL.out];exact Nat.le_refl 4) (by decide)
  rw[HL.out]at this
  exact this
 have s3:=src_lit (w.alloc (.cells (sm.map u8).toArray 5 (0,0))) 79 (0,0) 1 2 2 [.slice sa l.length sc,.slice (some ⟨w.heap.size,0,none⟩) 4 4] rfl (by omega) (by decide)
 rw[World.size_alloc]at s3
 refine (Concat_ok s3 (HV.out.nw hn1) (s2.nw ((Nw.refl _).alloc _)) (by rw[HL.out];omega)).mono ?_
 rintro e w1 ⟨v',rfl,q1,q2,q3⟩
 have Q:=zH (NewB.from hn1 (e:=.returned v') ⟨v',rfl,q1,q2,q3⟩)
 clear q1 q2 q3 hn0 hn1 s2 s3
 go_wp2
 go_ret
 obtain⟨v2,h,q⟩:=Q.out
 obtain rfl:=Ending.returned.inj h
 rw[HQ.out]
 exact⟨_,rfl,q⟩
theorem Blob_ok {w:World}{v b:Value}{l k:List UInt8}(hv:Vec 1 w v l.length (l.map u8)) (hb:Bs w b k) (hne:k≠[]→∀g,b.ownBlock=some g→v.ownBlock≠some g) (hl:l.length≤90000000) (hk:k.length≤1000000) :
  Calls Tryz.prog 151 #[v,b] w (GrowB v w (l++blobB k)):=by
 have HV:=zH hv
 have HB:=zH hb
 have HNE:=zH hne
 obtain⟨sa,sc,rfl,-⟩:=hv.len
 obtain⟨ba,bc,rfl,-⟩:=hb.len
 clear hv hb hne
 have hm:((k.length:Nat):Int) % 18446744073709551616=k.length:=by omega
 go_enter Tryz.func151,Tryz.ntmps151
 go_wp2_with fail
 refine (Uint_ok HV.out k.length (by omega) (by omega)).mono ?_
 rintro e w1 ⟨v1,rfl,q1,q2,q3⟩
 have hlen:=uintB_len k.length 10 (by omega) (Nat.lt_trans (show k.length<2 ^ 64 by omega) (by decide))
 obtain⟨xa,xc,rfl,-⟩:=q1.len
 have HB1:=zH (HB.out.keep q2 (fun h g hg hx=>HNE.out h g hg hx))
 have Q:=zH (And.intro q1 (And.intro q2 q3))
 clear q1 q2 q3 HB
 have hl1:(l++uintB k.length).length≤l.length+10:=by rw[List.length_append];omega
 have HJ:Hid (l++blobB k=(l++uintB k.length)++k):=zH (List.append_assoc _ _ _).symm
 clear hlen
 generalize l++uintB k.length=l1 at *
 go_wp2_with fail
 have s3:=src_lit w1 79 (0,0) 1 2 2 [.slice xa l1.length xc,.slice ba k.length bc] rfl (by omega) (by decide)
 have hn:=(Nw.refl w1).alloc (.cells #[.slice xa l1.length xc,.slice ba k.length bc] 79 (0,0))
 refine (Concat_ok s3 (Q.out.1.rd.nw hn) (HB1.out.nw hn) (by omega)).mono ?_
 rintro e w2 ⟨v',rfl,q1,q2,q3⟩
 have P:=zH (And.intro q1 (And.intro (hn.trans q2) q3))
 clear q1 q2 q3 hn s3
 go_wp2
 go_ret
 refine⟨v',rfl,?_,?_,.inr fun g hg=>?_⟩
 ·rw[HJ.out];exact P.out.1
 ·exact Q.out.2.1.trans P.out.2.1.only
 ·have h1:=P.out.2.2 g hg
  have h2:=Q.out.2.1.size
  simp only[World.size_alloc]at h1
  omega
theorem sizeU8 (W:World):(sizeOf (Tryz.prog.elem 79)).run Tryz.prog W=.ok 1 W:=by kernel_rfl
theorem elemU8:Tryz.prog.underlying 79=some (.slice (Tryz.prog.elem 79)):=by kernel_rfl
section
variable {w:World}{a:Option Addr}{n cap:Nat}{l:List UInt8}
theorem bs_cut (h:Bs w (.slice a n cap) l) (i j:Nat) (hij:i≤j) (hj:j≤n):∃a' c',sliced a i j cap 1=.slice a' (j-i) c'∧Bs w (.slice a' (j-i) c') ((l.drop i).take (j-i))∧j-i≤9223372036854775807∧((l.drop i).take (j-i)).length=j-i:=by
 rcases h with ⟨a0,hv,rfl⟩|⟨g,o,c,hv,h1,h2,h3,h4⟩
 ·injection hv with e1 e2 e3
  subst e1 e2 e3
  obtain rfl:i=0:=by omega
  obtain rfl:j=0:=by omega
  exact⟨a,0,by simp[sliced],.inl ⟨_,rfl,by simp⟩,by simp,by simp⟩
 ·injection hv with e1 e2 e3
  subst e1 e2 e3
  have hlen:((l.drop i).take (j-i)).length=j-i:=by simp;omega
  unfold maxLen at h2
  by_cases hc:cap=i
  ·have hji:j=i:=by omega
   subst hji
   refine⟨some ⟨g,o,none⟩,0,by simp[sliced,hc],?_,by omega,hlen⟩
   rw[Nat.sub_self]
   exact .inl ⟨_,rfl,by simp⟩
  ·refine⟨some ⟨g,o+i,none⟩,cap-i,by simp[sliced,hc,addr_add],.inr ⟨g,o+i,cap-i,by rw[hlen],by rw[hlen];omega,by unfold maxLen;omega,h3,fun k hk=>?_⟩,by omega,hlen⟩
   rw[hlen]at hk
   have:=h4 (i+k) (by omega)
   rw[Nat.add_assoc,this]
   simp
theorem bs_lh (h:Bs w (.slice a n cap) l) (i j:Nat) (hij:i≤j) (hj:j≤n):∃a' c',Bs w (.slice a' (j-i) c') ((l.drop i).take (j-i))∧((l.drop i).take (j-i)).length=j-i ∧
  (∀W,(Instr.sliceAt 79 (.slice a n cap) (some (.int .i64 i)) (some (.int .i64 j)) none).run Tryz.prog W=.ok (.slice a' (j-i) c') W)∧(∀W,(Instr.slice 79 (.slice a n cap) (some (.int .i64 i)) (some (.int .i64 j)) none).run Tryz.prog W=.ok (.slice a' (j-i) c') W):=by
 have hcap:n≤cap:=by
  rcases h with ⟨a0,hv,rfl⟩|⟨g,o,c,hv,h1,-⟩
  ·injection hv with e1 e2 e3;omega
  ·injection hv with e1 e2 e3;omega
 obtain⟨a',c',e,hb,-,hl⟩:=bs_cut h i j hij hj
 have h2:∀W,(Instr.slice 79 (.slice a n cap) (some (.int .i64 i)) (some (.int .i64 j)) none).run Tryz.prog W=.ok (.slice a' (j-i) c') W:=fun W=>by
  rw[run_slice_lh W 79 a n cap elemU8 .i64 .i64 i j (by omega) (by omega) (by omega),sizeU8]
  simp only[Result.andThen,Int.toNat_natCast,e]
 exact⟨a',c',hb,hl,fun W=>by rw[run_sliceAt_slice W _ _ _ _ _ elemU8];exact h2 W,h2⟩
theorem bs_l (h:Bs w (.slice a n cap) l) (i:Nat) (hi:i≤n) (hn:l.length=n):∃a' c',Bs w (.slice a' (n-i) c') (l.drop i) ∧
  (∀W,(Instr.sliceAt 79 (.slice a n cap) (some (.int .i64 i)) none none).run Tryz.prog W=.ok (.slice a' (n-i) c') W)∧(∀W,(Instr.slice 79 (.slice a n cap) (some (.int .i64 i)) none none).run Tryz.prog W=.ok (.slice a' (n-i) c') W):=by
 obtain⟨a',c',e,hb,-,hl⟩:=bs_cut h i n hi (Nat.le_refl _)
 rw[List.take_of_length_le (by simp;omega)]at hb
 have h2:∀W,(Instr.slice 79 (.slice a n cap) (some (.int .i64 i)) none none).run Tryz.prog W=.ok (.slice a' (n-i) c') W:=fun W=>by
  rw[run_slice_l W 79 a n cap elemU8 .i64 i (by omega) (by omega),sizeU8]
  simp only[Result.andThen,Int.toNat_natCast,e]
 exact⟨a',c',hb,fun W=>by rw[run_sliceAt_slice W _ _ _ _ _ elemU8];exact h2 W,h2⟩
theorem bs_h (h:Bs w (.slice a n cap) l) (j:Nat) (hj:j≤n):∃a' c',Bs w (.slice a' j c') (l.take j)∧(l.take j).length=j ∧
  (∀W,(Instr.sliceAt 79 (.slice a n cap) none (some (.int .i64 j)) none).run Tryz.prog W=.ok (.slice a' j c') W)∧(∀W,(Instr.slice 79 (.slice a n cap) none (some (.int .i64 j)) none).run Tryz.prog W=.ok (.slice a' j c') W):=by
 have hcap:n≤cap:=by
  rcases h with ⟨a0,hv,rfl⟩|⟨g,o,c,hv,h1,-⟩
  ·injection hv with e1 e2 e3;omega
  ·injection hv with e1 e2 e3;omega
 obtain⟨a',c',e,hb,-,hl⟩:=bs_cut h 0 j (by omega) hj
 simp only[Nat.sub_zero,List.drop_zero]at e hb hl
 have h2:∀W,(Instr.slice 79 (.slice a n cap) none (some (.int .i64 j)) none).run Tryz.prog W=.ok (.slice a' j c') W:=fun W=>by
  rw[run_slice_h W 79 a n cap elemU8 .i64 j (by omega) (by omega),sizeU8]
  simp only[Result.andThen,Int.toNat_natCast,e]
 exact⟨a',c',hb,hl,fun W=>by rw[run_sliceAt_slice W _ _ _ _ _ elemU8];exact h2 W,h2⟩
end
theorem and127_u8:∀q:Nat,q<256→bits .and .u8 (q:Int) 127=((q % 128:Nat):Int):=by
 have h:∀q:Fin 256,bits .and .u8 ((q.val:Nat):Int) 127=((q.val % 128:Nat):Int):=by decide +kernel
 exact fun q hq=>h ⟨q,hq⟩
theorem and128_u8:∀q:Nat,q<256→bits .and .u8 (q:Int) 128=((q / 128*128:Nat):Int):=by
 have h:∀q:Fin 256,bits .and .u8 ((q.val:Nat):Int) 128=((q.val / 128*128:Nat):Int):=by decide +kernel
 exact fun q hq=>h ⟨q,hq⟩
theorem and1_u64 (a:Nat) (ha:a<18446744073709551616):bits .and .u64 (a:Int) 1=((a % 2:Nat):Int):=by
 have:=bits_mask .u64 64 (by decide) wraps_u64 1 (by decide) (a:Int) (by omega) (by omega)
 rw[show ((2:Int) ^ 1-1)=1 by decide]at this
 rw[this];omega
theorem xor_i64_0 (a:Nat) (ha:a<9223372036854775808):bits .xor .i64 (a:Int) 0=(a:Int):=by
 show IntKind.i64.wrap ((BitVec.ofInt 64 (a:Int) ^^^ BitVec.ofInt 64 0).toNat:Int)=_
 have h1:(BitVec.ofInt 64 (a:Int)).toNat=a:=by rw[BitVec.ofInt_natCast,BitVec.toNat_ofNat];exact Nat.mod_eq_of_lt (by omega)
 have h2:(BitVec.ofInt 64 0).toNat=0:=by decide
 rw[BitVec.toNat_xor,h1,h2,Nat.xor_zero]
 exact IntWalk.i64_in _ (by omega)
theorem xor_i64_1 (a:Nat) (ha:a<9223372036854775808):bits .xor .i64 (a:Int) (-1) = -(a:Int)-1:=by
 show IntKind.i64.wrap ((BitVec.ofInt 64 (a:Int) ^^^ BitVec.ofInt 64 (-1)).toNat:Int)=_
 have h1:(BitVec.ofInt 64 (a:Int)).toNat=a:=by rw[BitVec.ofInt_natCast,BitVec.toNat_ofNat];exact Nat.mod_eq_of_lt (by omega)
 have h2:(BitVec.ofInt 64 (-1)).toNat=2 ^ 64-1:=by decide
 have h3:a ^^^ (2 ^ 64-1)=2 ^ 64-1-a:=by
  rw[Nat.xor_comm];exact Lib.xor_ones64 a (by omega)
 rw[BitVec.toNat_xor,h1,h2,h3,IntKind.wrap_i64]
 omega
theorem opened_ok (n:Nat) (h:n<18446744073709551616) (w:World) :
  Calls Tryz.prog 225 #[.int .u64 n] w fun e w'=>e=.returned (.int .i64 (zag n))∧w=w':=by
 have ha0:=and1_u64 n h
 have hd:(n:Int) / 2=((n / 2:Nat):Int):=by omega
 rcases Nat.mod_two_eq_zero_or_one n with hb|hb
 ·have hx:=xor_i64_0 (n / 2) (by omega)
  have hz:zag n=((n / 2:Nat):Int):=by unfold zag;rw[if_pos hb]
  have ha:bits .and .u64 (n:Int) 1=0:=by rw[hb]at ha0;simpa using ha0
  rw[←hd]at hx hz
  have HZ:=zH hz
  clear ha0 hb hz hd
  go_enter Tryz.func225,Tryz.ntmps225
  go_wp2
  go_ret
  exact⟨ret1 (by rw[HZ.out]),rfl⟩
 ·have hx:=xor_i64_1 (n / 2) (by omega)
  have hz:zag n = -((n / 2:Nat):Int)-1:=by unfold zag;rw[if_neg (by omega)]
  have ha:bits .and .u64 (n:Int) 1=1:=by rw[hb]at ha0;simpa using ha0
  rw[←hd]at hx hz
  have HZ:=zH hz
  clear ha0 hb hz hd
  go_enter Tryz.func225,Tryz.ntmps225
  go_wp2
  go_ret
  exact⟨ret1 (by rw[HZ.out]),rfl⟩
theorem number_ok {w:World}{v:Value}{l:List UInt8}(hv:Bs w v l) :
  Calls Tryz.prog 184 #[v] w fun e w'=>e=.returned (.tuple #[.int .u64 (numF 0 0 l).1,.int .i64 (numF 0 0 l).2])∧w=w':=by
 obtain⟨a,cap,rfl,h1,h2,hel⟩:=hv.elems
 have hmax:l.length≤9223372036854775807:=by unfold maxLen at h2;omega
 clear hv h1 h2
 have HE:=zH hel
 clear hel
 obtain⟨N,hNN⟩:=zN (numF 0 0 l)
 rw[hNN]
 go_enter Tryz.func184,Tryz.ntmps184
 go_wp2
 go_loopw [4,9] (fun n k wr=>∃i acc:Nat,i≤9∧i≤l.length∧k=.int .i64 i∧n=.int .u64 acc∧acc<2 ^ (7*i)∧numF i acc (l.drop i)=N∧w=wr) (fun _ k _=>l.length-(intOf k).toNat)
 case atStart=>exact⟨0,0,by omega,by omega,rfl,rfl,by simp,hNN,rfl⟩
 case round =>
  obtain⟨i,acc,hi9,hi,rfl,rfl,hacc,hN,rfl⟩:=hrel
  clear hNN
  by_cases hlt:i<l.length
  ·obtain⟨g,o,rfl,hg,hcell⟩:=HE.out i hlt
   have hc8:l[i].toNat<256:=l[i].toNat_lt
   have hcell':w.cell? ⟨g,o+i,none⟩=some (.int .u8 (l[i].toNat:Int)):=hcell
   rw[List.drop_eq_getElem_cons hlt]at hN
   conv at hN=>lhs;unfold numF
   generalize l[i].toNat=c at hcell' hc8 hN
   have ha:=and127_u8 c hc8
   have hb:=and128_u8 c hc8
   have hp:=pow_pos7 i
   have hi63:(2:Nat) ^ (7*i)≤2 ^ 63:=Nat.pow_le_pow_right (by omega) (by omega)
   have HN:=zH hN
   have HA:=zH hacc
   clear hcell hN hacc
   have ht7:acc+c % 128*2 ^ (7*i)<2 ^ (7*(i+1)):=by
    have hm:c % 128*2 ^ (7*i)≤127*2 ^ (7*i):=Nat.mul_le_mul_right _ (by omega)
    have:=HA.out
    rw[pow7];omega
   have h8:i<9→acc+c % 128*2 ^ (7*i)<2 ^ 63:=fun h=>by
    have h56:(2:Nat) ^ (7*i)≤2 ^ 56:=Nat.pow_le_pow_right (by omega) (by omega)
    have hm:c % 128*2 ^ (7*i)≤127*2 ^ (7*i):=Nat.mul_le_mul_right _ (by omega)
    have:=HA.out
    omega
   by_cases h9:i=9∧1<c
   ·obtain⟨rfl,h1⟩:=h9
    have r:=HN.out
    rw[if_pos ⟨rfl,h1⟩]at r
    have R:=zH r
    have hc1:decide ((1:Int)<(c:Int))=true:=by simp;omega
    clear r HN h8 hp hi63 ht7
    go_wp2
    have r:=R.out
    refine bodyPost_ret (v:=.tuple #[.int .u64 0,.int .i64 (-1)]) (by simp[results,Tryz.results184,go_sem]) rfl ⟨by rw[←r];rfl,rfl⟩
   ·have hbig:acc+c % 128*2 ^ (7*i)<18446744073709551616:=by
     rcases Nat.lt_or_ge i 9 with h|h
     ·have:=h8 h;omega
     ·obtain rfl:i=9:=by omega
      have hc1:c≤1:=by
       rcases Nat.lt_or_ge 1 c with h|h
       ·exact absurd ⟨rfl,h⟩ h9
       ·exact h
      have hm:c % 128*2 ^ (7*9)≤1*2 ^ (7*9):=Nat.mul_le_mul_right _ (by omega)
      have:=HA.out
      have e2:(2:Nat) ^ (7*9)+2 ^ (7*9)=18446744073709551616:=by decide
      omega
    have hx0:(c:Int) % 128*2 ^ (7*i)=((c % 128*2 ^ (7*i):Nat):Int):=by push_cast;rfl
    have hw1:IntKind.u64.wrap ((c:Int) % 128*2 ^ (7*i))=((c % 128*2 ^ (7*i):Nat):Int):=by rw[hx0];exact IntWalk.u64_in _ (by omega)
    have r:=HN.out
    rw[if_neg h9]at r
    have hacc64:acc<18446744073709551616:=by have:=HA.out;omega
    have ht0:c=0→c % 128*2 ^ (7*i)=0:=fun e=>by rw[e];simp
    generalize c % 128*2 ^ (7*i)=t at *
    have hw2:IntKind.u64.wrap ((acc:Int)+(t:Int))=((acc+t:Nat):Int):=by rw[←Int.natCast_add];exact IntWalk.u64_in _ (by omega)
    have H8:=zH ht7
    clear h8 ht7 hx0 HN hp hi63 hbig
    by_cases hh:128≤c
    ·rw[if_pos hh]at r
     have hi9':i≠9:=fun e=>h9 ⟨e,by omega⟩
     have q1:((i:Int)==9)=false:=by simpa using (by omega:¬ (i:Int)=9)
     have q2:((c:Int) / 128*128 !=0)=true:=by simp;omega
     have R:=zH r
     clear r
     go_wp2
     go_roundw
     case rel=>exact⟨i+1,acc+t,by omega,by omega,by go_num,by go_num,H8.out,R.out,by trivial⟩
     case measure=>simp[intOf];omega
    ·rw[if_neg hh]at r
     have q2:((c:Int) / 128*128 !=0)=false:=by simp;omega
     have hq9:i=9→c≤1:=fun e=>by
      rcases Nat.lt_or_ge 1 c with h|h
      ·exact absurd ⟨e,h⟩ h9
      ·exact h
     by_cases hz:c=0∧0<i
     ·obtain⟨rfl,h0⟩:=hz
      rw[if_pos ⟨rfl,h0⟩]at r
      have R:=zH r
      clear r
      by_cases h9':i=9
      ·subst h9'
       go_wp2
       have r:=R.out
       refine bodyPost_ret (v:=.tuple #[.int .u64 0,.int .i64 (-1)]) (by simp[results,Tryz.results184,go_sem]) rfl ⟨by rw[←r];rfl,rfl⟩
      ·have q1:((i:Int)==9)=false:=by simpa using (by omega:¬ (i:Int)=9)
       have q3:decide ((0:Int)<(i:Int))=true:=by simp;omega
       go_wp2
       have r:=R.out
       refine bodyPost_ret (v:=.tuple #[.int .u64 0,.int .i64 (-1)]) (by simp[results,Tryz.results184,go_sem]) rfl ⟨by rw[←r];rfl,rfl⟩
     ·rw[if_neg hz]at r
      have R:=zH r
      clear r
      have hfin:(i:Int)+1≤10:=by omega
      by_cases h9':i=9
      ·have hc1:=hq9 h9'
       have qa:decide ((1:Int)<(c:Int))=false:=by simp;omega
       have qb:((c:Int)==0)=false:=by simp;omega
       have qn:¬ c=0:=by omega
       have q1:((i:Int)==9)=true:=by simp;omega
       have H9:=zH h9'
       clear h9' hq9 hc1
       go_wp2
       have r:=R.out
       refine bodyPost_ret (v:=.tuple #[.int .u64 ((acc+t:Nat):Int),.int .i64 ((i:Int)+1)]) (by simp[results,Tryz.results184,go_sem]) rfl ⟨by rw[←r],rfl⟩
      ·have q1:((i:Int)==9)=false:=by simpa using (by omega:¬ (i:Int)=9)
       by_cases hc0:c=0
       ·obtain rfl:t=0:=ht0 hc0
        have hacc0:IntKind.u64.wrap ((acc:Int))=acc:=IntWalk.u64_in _ (by omega)
        have hi0:¬ 0<i:=fun h=>hz ⟨hc0,h⟩
        have hb0:bits .and .u8 0 127=0:=by decide
        have hb1:bits .and .u8 0 128=0:=by decide
        subst hc0
        have q4:decide ((0:Int)<(i:Int))=false:=by simp;omega
        go_wp2
        have r:=R.out
        refine bodyPost_ret (v:=.tuple #[.int .u64 ((acc+0:Nat):Int),.int .i64 ((i:Int)+1)]) (by simp[results,Tryz.results184,go_sem]) rfl ⟨by rw[←r],rfl⟩
       ·have q3:((c:Int)==0)=false:=by simpa using (by omega:¬ (c:Int)=0)
        go_wp2
        have r:=R.out
        refine bodyPost_ret (v:=.tuple #[.int .u64 ((acc+t:Nat):Int),.int .i64 ((i:Int)+1)]) (by simp[results,Tryz.results184,go_sem]) rfl ⟨by rw[←r],rfl⟩
  ·obtain rfl:i=l.length:=by omega
   have HN:Hid (N=(0,0)):=zH (by rw[←hN];simp[numF])
   clear hN hacc
   rw[HN.out]
   go_wp2
   refine bodyPost_ret (v:=.tuple #[.int .u64 0,.int .i64 0]) (by simp[results,Tryz.results184,go_sem]) rfl ⟨by rw[HN.out];rfl,rfl⟩
def u3 (r:Nat×Int×Int):Value:=.tuple #[.int .u64 r.1,.int .i64 r.2.1,.int .i64 r.2.2]
def i3 (r:Int×Int×Int):Value:=.tuple #[.int .i64 r.1,.int .i64 r.2.1,.int .i64 r.2.2]
theorem GetUint_ok {w:World}{v:Value}{l:List UInt8}(hv:Bs w v l) (at_:Int) (_ha:in64 at_){n:Nat}{x e:Int}(hr:getU l at_=(n,x,e)) :
  Calls Tryz.prog 140 #[v,.int .i64 at_] w fun y w'=>y=.returned (.tuple #[.int .u64 n,.int .i64 x,.int .i64 e])∧w=w':=by
 obtain⟨a,cap,rfl,h1,h2,-⟩:=hv.elems
 have hmax:l.length≤9223372036854775807:=by unfold maxLen at h2;omega
 have HV:=zH hv
 have HR:=zH hr
 clear h1 h2 hv hr
 by_cases c0:at_<0
 ·have r:=HR.out
  unfold getU at r
  rw[if_pos (.inl c0)]at r
  cases r
  clear HV HR
  go_enter Tryz.func140,Tryz.ntmps140
  go_wp2
  refine bodyPost_ret (v:=.tuple #[.int .u64 0,.int .i64 0,.int .i64 2]) (by simp[results,Tryz.results140,go_sem]) rfl ⟨rfl,rfl⟩
 by_cases c1:(l.length:Int)<at_
 ·have r:=HR.out
  unfold getU at r
  rw[if_pos (.inr c1)]at r
  cases r
  clear HV HR
  go_enter Tryz.func140,Tryz.ntmps140
  go_wp2
  refine bodyPost_ret (v:=.tuple #[.int .u64 0,.int .i64 0,.int .i64 2]) (by simp[results,Tryz.results140,go_sem]) rfl ⟨rfl,rfl⟩
 obtain⟨k,rfl⟩:∃k:Nat,at_=k:=⟨at_.toNat,by omega⟩
 have hk:k≤l.length:=by omega
 obtain⟨a',c',hb,s1,s2⟩:=bs_l HV.out k hk rfl
 have HN:=number_ok hb
 have hbd:=numF_bound (l.drop k) 0 0 (by omega) (by simp)
 have r:=HR.out
 unfold getU at r
 rw[if_neg (by omega),Int.toNat_natCast]at r
 obtain⟨⟨n0,m0⟩,hnm⟩:=zN (numF 0 0 (l.drop k))
 rw[hnm]at HN hbd r
 simp only[List.length_drop]at HN hbd r
 have HN:=zH HN
 have hm1:m0≤((l.length-k:Nat):Int):=by omega
 have hbd:=hbd.1
 clear hb hnm HV HR
 by_cases m1:m0=0
 ·subst m1
  rw[if_pos rfl]at r
  cases r
  go_enter Tryz.func140,Tryz.ntmps140
  go_wp2_with fail
  refine HN.out.mono ?_
  rintro e w' ⟨rfl,rfl⟩
  go_wp2
  refine bodyPost_ret (v:=.tuple #[.int .u64 0,.int .i64 0,.int .i64 11]) (by simp[results,Tryz.results140,go_sem]) rfl ⟨rfl,rfl⟩
 by_cases m2:m0<0
 ·rw[if_neg m1,if_pos m2]at r
  cases r
  have q1:(m0==0)=false:=by simpa using m1
  go_enter Tryz.func140,Tryz.ntmps140
  go_wp2_with fail
  refine HN.out.mono ?_
  rintro e w' ⟨rfl,rfl⟩
  go_wp2
  refine bodyPost_ret (v:=.tuple #[.int .u64 0,.int .i64 0,.int .i64 10]) (by simp[results,Tryz.results140,go_sem]) rfl ⟨rfl,rfl⟩
 ·rw[if_neg m1,if_neg m2]at r
  cases r
  have q1:(m0==0)=false:=by simpa using m1
  have q2:decide (m0<0)=false:=by simpa using m2
  have hw:IntKind.i64.wrap ((k:Int)+m0)=(k:Int)+m0:=IntWalk.i64_in _ (by omega)
  go_enter Tryz.func140,Tryz.ntmps140
  go_wp2_with fail
  refine HN.out.mono ?_
  rintro e w' ⟨rfl,rfl⟩
  go_wp2
  refine bodyPost_ret (v:=.tuple #[.int .u64 n,.int .i64 ((k:Int)+m0),.int .i64 0]) (by simp[results,Tryz.results140,go_sem]) rfl ⟨rfl,rfl⟩
theorem GetInt_ok {w:World}{v:Value}{l:List UInt8}(hv:Bs w v l) (at_:Int) (ha:in64 at_){n x e:Int}(hr:getI l at_=(n,x,e)) :
  Calls Tryz.prog 215 #[v,.int .i64 at_] w fun y w'=>y=.returned (.tuple #[.int .i64 n,.int .i64 x,.int .i64 e])∧w=w':=by
 obtain⟨a,cap,rfl,h1,h2,-⟩:=hv.elems
 obtain⟨⟨n0,x0,e0⟩,hu⟩:=zN (getU l at_)
 have HU:=zH (GetUint_ok hv at_ ha hu)
 have hf:=getU_fine (b:=l) (at_:=at_)
 unfold getI at hr
 rw[hu]at hf hr
 simp only at hf hr
 clear hv h1 h2 hu ha
 by_cases c0:e0=0
 ·subst c0
  rw[if_pos rfl]at hr
  cases hr
  have hn:=(hf rfl).2.2.2
  clear hf
  have HO:=zH (opened_ok n0 (by omega) w)
  go_enter Tryz.func215,Tryz.ntmps215
  go_wp2_with fail
  refine HU.out.mono ?_
  rintro e w' ⟨rfl,rfl⟩
  go_wp2_with fail
  refine HO.out.mono ?_
  rintro e w' ⟨rfl,rfl⟩
  go_wp2
  refine bodyPost_ret (v:=.tuple #[.int .i64 (zag n0),.int .i64 x,.int .i64 0]) (by simp[results,Tryz.results215,go_sem]) rfl ⟨rfl,rfl⟩
 ·rw[if_neg c0]at hr
  cases hr
  clear hf
  have q1:(e !=0)=true:=by simpa using c0
  go_enter Tryz.func215,Tryz.ntmps215
  go_wp2_with fail
  refine HU.out.mono ?_
  rintro e w' ⟨rfl,rfl⟩
  go_wp2
  refine bodyPost_ret (v:=.tuple #[.int .i64 0,.int .i64 0,.int .i64 e]) (by simp[results,Tryz.results215,go_sem]) rfl ⟨rfl,rfl⟩
theorem Equal_ok {w:World}{v u:Value}{l k:List UInt8}(h:Bs w v l) (h':Bs w u k) :
  Calls Tryz.prog 182 #[v,u] w fun e w'=>e=.returned (.bool (decide (l=k)))∧Nw w w':=by
 obtain⟨a,cap,rfl,h1,h2,he⟩:=h.elems
 obtain⟨a',cap',rfl,h1',h2',he'⟩:=h'.elems
 have hmax:l.length≤9223372036854775807:=by unfold maxLen at h2;omega
 have HE:=zH he
 have HE':=zH he'
 clear h h' h1 h2 h1' h2' he he'
 by_cases hl:l.length=k.length
 case neg =>
  have hb:((l.length:Int)!=(k.length:Int))=true:=by simpa using (by omega:¬ (l.length:Int)=k.length)
  have R:Hid (decide (l=k)=false):=zH (by simpa using fun e=>hl (by rw[e]))
  go_enter Tryz.func182,Tryz.ntmps182
  go_wp2
  go_ret
  exact⟨by rw[R.out];rfl,Nw.refl _⟩
 obtain⟨n,hn⟩:=zN (l.length)
 have HN:=zH hn
 have HK:Hid (k.length=n):=zH (by rw[←hl,hn])
 rw[←hl,hn]
 rw[hn]at hmax
 clear hn hl
 go_enter Tryz.func182,Tryz.ntmps182
 go_wp2
 go_loopw [13] (fun i wr=>∃j:Nat,j≤n∧i=.int .i64 j∧l.take j=k.take j∧Nw w wr) (fun i _=>n-(intOf i).toNat)
 case atStart=>exact⟨0,Nat.zero_le _,rfl,by simp,Nw.refl _⟩
 case round =>
  obtain⟨j,hj,rfl,ht,hwr⟩:=hrel
  have HT:=zH ht
  have HW:=zH hwr
  clear ht hwr
  by_cases hlt:j<n
  ·have hjl:j<l.length:=by rw[HN.out];exact hlt
   have hjk:j<k.length:=by rw[HK.out];exact hlt
   obtain⟨g,o,rfl,hg,hc⟩:=HE.out j hjl
   obtain⟨g',o',rfl,hg',hc'⟩:=HE'.out j hjk
   have hc:=HW.out.cell hc
   have hc':=HW.out.cell hc'
   have hg:=Nat.lt_of_lt_of_le hg HW.out.size
   have hg':=Nat.lt_of_lt_of_le hg' HW.out.size
   have hs:l.take (j+1)=l.take j++[l[j]]:=List.take_succ_eq_append_getElem hjl
   have hs':k.take (j+1)=k.take j++[k[j]]:=List.take_succ_eq_append_getElem hjk
   have HSS:=zH (And.intro hs hs')
   have HGE:Hid (l=k→(l[j]:UInt8)=k[j]):=zH (fun e=>by subst e;rfl)
   clear hs hs'
   generalize (l[j]:UInt8)=x at hc HSS HGE
   generalize (k[j]:UInt8)=y at hc' HSS HGE
   have hc:wr.cell? ⟨g,o+j,none⟩=some (.int .u8 (x.toNat:Int)):=hc
   have hc':wr.cell? ⟨g',o'+j,none⟩=some (.int .u8 (y.toNat:Int)):=hc'
   have g1:=cellG hc
   have g2:=cellG hc'
   go_upto_region 6 with fail
   refine wp_region_quiet_below (by kernel_rfl) (by kernel_rfl) ?_
   repeat (first|go_big_quiet_step (fail)|quiet_step (fail))
   refine wpQuiet_nil ?_
   intro w6 hw6
   have N6:=zH (HW.out.trans (Nw.of_regrown hw6))
   clear hw6 g1 g2
   by_cases hxy:x=y
   ·subst hxy
    have hb:((x.toNat:Int)!=(x.toNat:Int))=false:=by simp
    go_wp2
    go_roundw
    case rel=>exact⟨j+1,by omega,by go_num,by rw[HSS.out.1,HSS.out.2,HT.out],N6.out⟩
    case measure=>simp[intOf];omega
   ·have hb:((x.toNat:Int)!=(y.toNat:Int))=true:=by
     have:¬ x.toNat=y.toNat:=fun e=>hxy (UInt8.toNat_inj.1 e)
     simpa using (by omega:¬ (x.toNat:Int)=y.toNat)
    have R:Hid (decide (l=k)=false):=zH (by simpa using fun e=>hxy (HGE.out e))
    go_wp2
    go_ret
    exact⟨by rw[R.out];rfl,N6.out⟩
  ·obtain rfl:j=n:=by omega
   have R:Hid (decide (l=k)=true):=zH (by
    have:=HT.out
    rw[List.take_of_length_le (by rw[HN.out];exact Nat.le_refl _),List.take_of_length_le (by rw[HK.out];exact Nat.le_refl _)]at this
    simpa using this)
   go_wp2
   go_ret
   exact⟨by rw[R.out];rfl,HW.out⟩
theorem Unseal_ok {w:World}{v:Value}{l:List UInt8}(hv:Bs w v l) (hl:l.length≤90000000){r:List UInt8}{e:Int}(hr:unsealB l=(r,e)) :
  Calls Tryz.prog 138 #[v] w fun y w'=>∃v',y=.returned (.tuple #[v',.int .i64 e])∧Bs w' v' r∧Nw w w':=by
 obtain⟨a,cap,rfl,h1,h2,-⟩:=hv.elems
 have HV:=zH hv
 obtain⟨n,hn⟩:=zN (l.length)
 have HN:=zH hn
 unfold unsealB at hr
 rw[hn]at hr hl HV ⊢
 clear h1 h2 hv
 by_cases h4:n<4
 ·rw[if_pos h4]at hr
  cases hr
  clear HV
  go_enter Tryz.func138,Tryz.ntmps138
  go_wp2
  refine bodyPost_ret (v:=.tuple #[.slice none 0 0,.int .i64 11]) (by simp[results,Tryz.results138,go_sem]) rfl ⟨_,rfl,.inl ⟨none,rfl,rfl⟩,Nw.refl _⟩
 rw[if_neg h4]at hr
 obtain⟨m,rfl⟩:∃m,n=m+4:=⟨n-4,by omega⟩
 simp only[Nat.add_sub_cancel]at hr
 obtain⟨a',c',hb,hlen,s1,s2⟩:=bs_h HV.out m (by omega)
 have hsub:((m+4:Nat):Int)-4=(m:Int):=by omega
 have HB:=zH hb
 have hlb:(l.take m).length=m:=hlen
 have HS:=zH (Seal_ok hb (by omega))
 have HC:=zH (fun (w':World) (hw:Nw w w')=>Clone_ok (hb.nw hw) (by omega))
 have HR:=zH hr
 have HL2:Hid ((sealB sumB (l.take m)).length=m+4):=zH (by simp[sealB,sumB_len,hlb])
 clear hb hlen hn hr hlb
 generalize l.take m=x at *
 generalize sealB sumB x=sx at *
 go_enter Tryz.func138,Tryz.ntmps138
 go_wp2_with fail
 refine HS.out.mono ?_
 rintro e w1 ⟨v1,rfl,q1,q2,-⟩
 obtain⟨xa,xc,rfl,-⟩:=q1.len
 have Q1:=zH q1.rd
 have N1:=zH q2
 clear q1 q2
 go_wp2_with fail
 refine (Equal_ok Q1.out (HV.out.nw N1.out)).mono ?_
 rintro e w2 ⟨rfl,n2⟩
 have N2:=zH (N1.out.trans n2)
 have r:=HR.out
 clear n2
 by_cases hq:sx=l
 ·have hd:decide (sx=l)=true:=by simpa using hq
  rw[if_pos hq]at r
  cases r
  go_wp2_with fail
  refine (HC.out w2 N2.out).mono ?_
  rintro e w3 ⟨v3,rfl,q1,q2,-⟩
  have Q3:=zH q1.rd
  have N3:=zH (N2.out.trans q2)
  clear q1 q2
  go_wp2
  refine bodyPost_ret (v:=.tuple #[v3,.int .i64 0]) (by simp[results,Tryz.results138,go_sem]) rfl ⟨_,rfl,Q3.out,N3.out⟩
 ·have hd:decide (sx=l)=false:=by simpa using hq
  rw[if_neg hq]at r
  cases r
  go_wp2
  refine bodyPost_ret (v:=.tuple #[.slice none 0 0,.int .i64 12]) (by simp[results,Tryz.results138,go_sem]) rfl ⟨_,rfl,.inl ⟨none,rfl,rfl⟩,N2.out⟩
theorem GetBlob_ok {w:World}{v:Value}{l:List UInt8}(hv:Bs w v l) (hl:l.length≤100000000) (at_ most:Int) (ha:in64 at_) (hm:0≤most∧most≤1000000){r:List UInt8}{x e:Int}(hr:getB l at_ most=(r,x,e)) :
  Calls Tryz.prog 185 #[v,.int .i64 at_,.int .i64 most] w fun y w'=>∃v',y=.returned (.tuple #[v',.int .i64 x,.int .i64 e])∧Bs w' v' r∧Nw w w':=by
 obtain⟨a,cap,rfl,h1,h2,-⟩:=hv.elems
 obtain⟨⟨n0,x0,e0⟩,hu⟩:=zN (getU l at_)
 have HU:=zH (GetUint_ok hv at_ ha hu)
 have hf:=getU_fine (b:=l) (at_:=at_)
 unfold getB at hr
 rw[hu]at hf hr
 simp only at hf hr
 have HV:=zH hv
 have hm0:=hm.1
 have hm1:=hm.2
 clear hv h1 h2 hu ha hm
 by_cases c0:e0=0
 case neg =>
  rw[if_pos c0]at hr
  cases hr
  clear hf HV
  have q1:(e !=0)=true:=by simpa using c0
  go_enter Tryz.func185,Tryz.ntmps185
  go_wp2_with fail
  refine HU.out.mono ?_
  rintro e w' ⟨rfl,rfl⟩
  go_wp2
  refine bodyPost_ret (v:=.tuple #[.slice none 0 0,.int .i64 0,.int .i64 e]) (by simp[results,Tryz.results185,go_sem]) rfl ⟨_,rfl,.inl ⟨none,rfl,rfl⟩,Nw.refl _⟩
 subst c0
 rw[if_neg (by simp)]at hr
 obtain⟨-,f1,f2,f3⟩:=hf rfl
 have q1:((0:Int)!=0)=false:=rfl
 have qm:decide (most<0)=false:=by simpa using hm0
 have hmc:most % 18446744073709551616=most:=by omega
 by_cases c1:most<(n0:Int)
 ·rw[if_pos c1]at hr
  cases hr
  have q2:decide (most<(n0:Int))=true:=by simpa using c1
  clear HV
  go_enter Tryz.func185,Tryz.ntmps185
  go_wp2_with fail
  refine HU.out.mono ?_
  rintro e w' ⟨rfl,rfl⟩
  go_wp2
  refine bodyPost_ret (v:=.tuple #[.slice none 0 0,.int .i64 0,.int .i64 3]) (by simp[results,Tryz.results185,go_sem]) rfl ⟨_,rfl,.inl ⟨none,rfl,rfl⟩,Nw.refl _⟩
 rw[if_neg c1]at hr
 have q2:decide (most<(n0:Int))=false:=by simpa using c1
 obtain⟨k,rfl⟩:∃k:Nat,x0=k:=⟨x0.toNat,by omega⟩
 have hk:k≤l.length:=by omega
 obtain⟨a1,c1',hb1,s1,s2⟩:=bs_l HV.out k hk rfl
 have hlc:(((l.length-k:Nat):Int)) % 18446744073709551616=((l.length-k:Nat):Int):=by omega
 by_cases c2:(l.length:Int)<(k:Int)+(n0:Int)
 ·rw[if_pos c2]at hr
  cases hr
  have q3:decide (((l.length-k:Nat):Int)<(n0:Int))=true:=by simp;omega
  clear HV hb1
  go_enter Tryz.func185,Tryz.ntmps185
  go_wp2_with fail
  refine HU.out.mono ?_
  rintro e w' ⟨rfl,rfl⟩
  go_wp2
  refine bodyPost_ret (v:=.tuple #[.slice none 0 0,.int .i64 0,.int .i64 11]) (by simp[results,Tryz.results185,go_sem]) rfl ⟨_,rfl,.inl ⟨none,rfl,rfl⟩,Nw.refl _⟩
 rw[if_neg c2]at hr
 have q3:decide (((l.length-k:Nat):Int)<(n0:Int))=false:=by simp;omega
 obtain⟨a2,c2',hb2,hl2,t1,t2⟩:=bs_lh HV.out k (k+n0) (by omega) (by omega)
 have hsub:k+n0-k=n0:=by omega
 rw[hsub]at hb2 hl2 t1 t2
 have HC:=zH (Clone_ok hb2 (by omega))
 have hr1:(l.drop k).take n0=r∧(k:Int)+n0=x∧0=e:=by simpa using hr
 obtain⟨rfl,rfl,rfl⟩:=hr1
 have hw:IntKind.i64.wrap ((k:Int)+(n0:Int))=(k:Int)+(n0:Int):=IntWalk.i64_in _ (by omega)
 rw[Int.natCast_add]at t1 t2
 have hw2:IntKind.i64.wrap (n0:Int)=(n0:Int):=IntWalk.i64_in _ (by omega)
 clear hb1 hb2 HV hr hsub
 generalize (l.drop k).take n0=z at *
 go_enter Tryz.func185,Tryz.ntmps185
 go_wp2_with fail
 refine HU.out.mono ?_
 rintro e w' ⟨rfl,rfl⟩
 go_wp2_with fail
 refine HC.out.mono ?_
 rintro e w3 ⟨v3,rfl,p1,p2,-⟩
 have Q3:=zH p1.rd
 have N3:=zH p2
 clear p1 p2
 go_wp2
 refine bodyPost_ret (v:=.tuple #[v3,.int .i64 ((k:Int)+(n0:Int)),.int .i64 0]) (by simp[results,Tryz.results185,go_sem]) rfl ⟨_,by simp,Q3.out,N3.out⟩
def evV (e:Ev):List Value:=[.int .i64 e.thread,.int .u8 e.op.toNat,.int .i64 e.obj,.int .i64 e.a,.int .i64 e.b]
def MoreB (p:Nat) (v:Value) (w:World) (l:List UInt8) (e:Ending) (w':World):Prop:=
 e=.returned (.tuple #[])∧∃v',w'.heap[p]? = some (.cells #[v'] 79 (0,0))∧Vec 1 w' v' l.length (l.map u8)∧Only (fun k=>v.ownBlock=some k∨k=p) w w'∧(v'.ownBlock=v.ownBlock∨∀g,v'.ownBlock=some g→w.heap.size≤g)
theorem Put1_ok {w:World}{v:Value}{l:List UInt8}(p:Nat) (hp:w.heap[p]? = some (.cells #[v] 79 (0,0))) (hv:Vec 1 w v l.length (l.map u8)) (hne:v.ownBlock≠some p) (a b:Int) (_ha:in64 a) (_hb:in64 b) (hl:l.length≤90000000) :
  Calls Tryz.prog 157 #[.int .i64 a,.int .i64 b,.pointer (some ⟨p,0,none⟩)] w (MoreB p v w (l++intB (w64 (b-a)))):=by
 have c0:w.cell? ⟨p,0,none⟩=some v:=by simp[World.cell?,hp]
 have f0:w.frozen? ⟨p,0,none⟩=false:=by simp[World.frozen?,hp]
 have HV:=zH hv
 have HP:=zH hp
 have HNE:=zH hne
 obtain⟨sa,sc,rfl,-⟩:=hv.len
 have hw:IntKind.i64.wrap (b-a)=w64 (b-a):=by rw[IntKind.wrap_i64];rfl
 have hin:=w64_in (b-a)
 clear hv hp hne _ha _hb
 generalize hx:w64 (b-a)=x at *
 clear hx
 go_enter Tryz.func157,Tryz.ntmps157
 go_wp2_with fail
 refine (Int_ok HV.out x hin.1 hin.2 (by omega)).mono ?_
 rintro e w1 ⟨v1,rfl,q1,q2,q3⟩
 generalize l++intB x=l1 at *
 obtain⟨xa,xc,rfl,-⟩:=q1.len
 have hp1:w1.heap[p]? = some (.cells #[.slice sa l.length sc] 79 (0,0)):=q2.at_ HP.out HNE.out
 have g1:w1.cell? ⟨p,0,none⟩=some (.slice sa l.length sc):=by simp[World.cell?,hp1]
 have g2:w1.frozen? ⟨p,0,none⟩=false:=by simp[World.frozen?,hp1]
 have hpl:p<w.heap.size:=lt_of_block HP.out
 have hne1:(Value.slice xa l1.length xc).ownBlock≠some p:=fun hc=>by
  rcases q3 with h|h
  ·exact HNE.out (h▸hc)
  ·have:=h p hc;omega
 have HP1:=zH hp1
 have Q:=zH (And.intro q1 (And.intro q2 q3))
 have HN1:=zH hne1
 clear q1 q2 q3 hp1 hne1
 go_wp2
 refine bodyPost_ret (v:=.tuple #[]) (results_none rfl _ _ _) rfl ⟨rfl,_,one_setCell HP1.out,?_,?_,Q.out.2.2⟩
 ·refine Q.out.1.keep (by simp) fun g hg=>?_
  exact Below.heap_setCell _ _ _ _ (fun e=>HN1.out (by rw[hg,e]))
 ·exact Only.setCell (Q.out.2.1.mono fun k _ hk=>.inl hk) (fun _=>.inr rfl) _
structure PutS (w:World) (v:Value) (h e:Ev) (l:List UInt8) (w1:World):Prop where
 box:∃v1,w1.heap[w.heap.size]? = some (.cells #[v1] 79 (0,0))∧Vec 1 w1 v1 l.length (l.map u8)∧(v1.ownBlock=v.ownBlock∨∀g,v1.ownBlock=some g→w.heap.size+3≤g)
 hd:w1.heap[w.heap.size+1]? = some (.cells (evV h).toArray 87 (0,0))
 ev:w1.heap[w.heap.size+1+1]? = some (.cells (evV e).toArray 87 (0,0))
 only:Only (fun k=>v.ownBlock=some k) w w1
 lt:w.heap.size+3≤w1.heap.size
theorem PutS.cells {w:World}{v:Value}{h e:Ev}{l:List UInt8}{w1:World}(H:PutS w v h e l w1) :
  w1.cell? ⟨w.heap.size+1,0,none⟩=some (.int .i64 h.thread)∧w1.cell? ⟨w.heap.size+1,2,none⟩=some (.int .i64 h.obj)∧w1.cell? ⟨w.heap.size+1,3,none⟩=some (.int .i64 h.a)∧w1.cell? ⟨w.heap.size+1,4,none⟩=some (.int .i64 h.b) ∧
  w1.cell? ⟨w.heap.size+1+1,0,none⟩=some (.int .i64 e.thread)∧w1.cell? ⟨w.heap.size+1+1,2,none⟩=some (.int .i64 e.obj)∧w1.cell? ⟨w.heap.size+1+1,3,none⟩=some (.int .i64 e.a)∧w1.cell? ⟨w.heap.size+1+1,4,none⟩=some (.int .i64 e.b):=by
 have h1:=H.hd
 have h2:=H.ev
 simp[World.cell?,h1,h2,evV]
theorem PutS.more {w:World}{v:Value}{h e:Ev}{l:List UInt8}{w1:World}(H:PutS w v h e l w1) (hv:∀g,v.ownBlock=some g→g<w.heap.size) (a b:Int) (ha:in64 a) (hb:in64 b) (hl:l.length≤90000000) :
  Calls Tryz.prog 157 #[.int .i64 a,.int .i64 b,.pointer (some ⟨w.heap.size,0,none⟩)] w1 fun x w2=>x=.returned (.tuple #[])∧PutS w v h e (l++intB (w64 (b-a))) w2:=by
 obtain⟨v1,h1,h2,h3⟩:=H.box
 have hlt:=H.lt
 have hno:∀g,v1.ownBlock=some g→g≠w.heap.size∧g≠w.heap.size+1∧g≠w.heap.size+1+1:=fun g hg=>by
  rcases h3 with h|h
  ·have:=hv g (h▸hg);omega
  ·have:=h g hg;omega
 refine (Put1_ok w.heap.size h1 h2 (fun hc=>(hno _ hc).1 rfl) a b ha hb hl).mono ?_
 rintro x w2 ⟨rfl,v2,q1,q2,q3,q4⟩
 have hno2:∀k,k=w.heap.size+1∨k=w.heap.size+1+1→¬ (v1.ownBlock=some k∨k=w.heap.size):=by
  rintro k hk (hc|hc)
  ·have:=hno k hc;omega
  ·omega
 refine⟨rfl,⟨v2,q1,q2,?_⟩,q3.at_ H.hd (hno2 _ (.inl rfl)),q3.at_ H.ev (hno2 _ (.inr rfl)),?_,Nat.le_trans hlt q3.size⟩
 ·rcases q4 with h|h
  ·rw[h];exact h3
  ·exact .inr fun g hg=>Nat.le_trans hlt (h g hg)
 ·refine H.only.trans' q3 fun k hk hc=>?_
  rcases hc with hc|hc
  ·rcases h3 with h|h
   ·exact h▸hc
   ·have:=h k hc;omega
  ·omega
theorem Put_ok {w:World}{v:Value}{l:List UInt8}(hv:Vec 1 w v l.length (l.map u8)) (h e:Ev) (hh:h.Ok) (he:e.Ok) (hl:l.length≤80000000) :
  Calls Tryz.prog 127 #[v,.agg (evV h).toArray,.agg (evV e).toArray] w (GrowB v w (l++putE h e)):=by
 have HV:=zH hv
 have hlt:=hv.lt
 obtain⟨sa,sc,rfl,-⟩:=hv.len
 clear hv
 obtain⟨i0,hi,hz0,hz1,hz2⟩:=info_parts infoU8
 have HI:=zH hi
 have HZ0:=zH hz0
 have HZ1:=zH hz1
 have HZ2:=zH hz2
 clear hi hz0 hz1 hz2
 have HLT:=zH hlt
 clear hlt
 have HH:=zH hh
 have HE:=zH he
 clear hh he
 have hz:∀g,sa.map (·.block)=some g→True:=fun _ _=>trivial
 clear hz
 go_enter Tryz.func127,Tryz.ntmps127
 have hn3:Nw w (((w.alloc (.cells #[.slice sa l.length sc] 79 (0,0))).alloc (.cells (evV h).toArray 87 (0,0))).alloc (.cells (evV e).toArray 87 (0,0))):=(((Nw.refl w).alloc _).alloc _).alloc _
 have hn4:=hn3.alloc (.cells #[.int .u8 e.op.toNat] 5 (0,0))
 have V4:=zH (HV.out.nw hn4)
 have s4:=src_lit (((w.alloc (.cells #[.slice sa l.length sc] 79 (0,0))).alloc (.cells (evV h).toArray 87 (0,0))).alloc (.cells (evV e).toArray 87 (0,0))) 5 (0,0) 1 1 1 [.int .u8 e.op.toNat] rfl (by omega) (by decide)
 simp only[World.size_alloc]at s4
 have X4:=zH s4
 have B4:Hid (∃W4,W4=(((w.alloc (.cells #[.slice sa l.length sc] 79 (0,0))).alloc (.cells (evV h).toArray 87 (0,0))).alloc (.cells (evV e).toArray 87 (0,0))).alloc (.cells #[.int .u8 e.op.toNat] 5 (0,0)) ∧
   W4.heap[w.heap.size]? = some (.cells #[.slice sa l.length sc] 79 (0,0))∧W4.heap[w.heap.size+1]? = some (.cells (evV h).toArray 87 (0,0))∧W4.heap[w.heap.size+1+1]? = some (.cells (evV e).toArray 87 (0,0))∧w.heap.size+3≤W4.heap.size∧Nw w W4):=by
  refine⟨_,rfl,?_,?_,?_,by simp,hn4⟩
  ·exact heap_alloc_old _ _ (by simp;omega) |>.trans (heap_alloc_old _ _ (by simp;omega) |>.trans (heap_alloc_old _ _ (by simp) |>.trans (heap_alloc_new w _)))
  ·have:=heap_alloc_new (w.alloc (.cells #[.slice sa l.length sc] 79 (0,0))) (.cells (evV h).toArray 87 (0,0))
   exact heap_alloc_old _ _ (by simp) |>.trans (heap_alloc_old _ _ (by simp) |>.trans (by simpa using this))
  ·have:=heap_alloc_new ((w.alloc (.cells #[.slice sa l.length sc] 79 (0,0))).alloc (.cells (evV h).toArray 87 (0,0))) (.cells (evV e).toArray 87 (0,0))
   exact heap_alloc_old _ _ (by simp) |>.trans (by simpa using this)
 clear hn3 hn4 s4
 unfold evV at V4 X4 B4 ⊢
 go_wp2_with (at_builtin;refine wpList_append_vec rfl _ _ 79 rfl 5 i0 (.int .u8 0) 1 1 Tryz.underlying79 HI.out HZ0.out HZ1.out HZ2.out rfl (by decide) rfl rfl V4.out X4.out ?c1 ?c2 ?c3 ?_)
 case c1=>exact fun u hu=>by rw[List.mem_singleton]at hu;subst hu;rfl
 case c2=>unfold maxLen;omega
 case c3=>omega
 intro v1 w2 q1 q2 q3
 obtain⟨xa,xc,rfl,-⟩:=q1.len
 obtain⟨W4,hW4,b0,b1,b2,b3,b4⟩:=B4.out
 rw[←hW4]at q2
 have hv0:∀g,(Value.slice sa l.length sc).ownBlock=some g→g<w.heap.size:=HLT.out
 have c0:w2.cell? ⟨w.heap.size,0,none⟩=some (.slice sa l.length sc):=by
  have:=q2.at_ b0 (fun hc=>by have:=hv0 _ hc;omega)
  simp[World.cell?,this]
 have f0:w2.frozen? ⟨w.heap.size,0,none⟩=false:=by
  have:=q2.at_ b0 (fun hc=>by have:=hv0 _ hc;omega)
  simp[World.frozen?,this]
 have S0:Hid (PutS w (.slice sa l.length sc) h e (l++[e.op]) (w2.setCell ⟨w.heap.size,0,none⟩ (.slice xa (l.length+1) xc))):=by
  have hne:(Value.slice xa (l.length+1) xc).ownBlock≠some w.heap.size:=fun hc=>by
   rcases q3 with h|h
   ·have:=hv0 _ (h▸hc);omega
   ·have:=h _ hc;omega
  refine⟨⟨_,one_setCell (q2.at_ b0 (fun hc=>by have:=hv0 _ hc;omega)),?_,?_⟩,?_,?_,?_,?_⟩
  ·refine Vec.keep (w:=w2) ?_ (by simp) fun g hg=>Below.heap_setCell _ _ _ _ (fun e=>hne (by rw[hg,e]))
   rw[List.map_append,List.length_append]
   exact q1
  ·exact q3.imp id fun h g hg=>by have:=h g hg;omega
  ·rw[Below.heap_setCell _ _ _ _ (by simp)]
   exact q2.at_ b1 (fun hc=>by have:=hv0 _ hc;omega)
  ·rw[Below.heap_setCell _ _ _ _ (by simp;omega)]
   exact q2.at_ b2 (fun hc=>by have:=hv0 _ hc;omega)
  ·exact Only.setCell (b4.only.trans' q2 (fun k _ hk=>hk)) (fun h=>absurd h (by simp)) _
  ·have:=q2.size;simp;omega
 have L0:Hid ((l++[e.op]).length≤l.length+1):=zH (by simp)
 obtain⟨va,hva⟩:=zN (w2.setCell ⟨w.heap.size,0,none⟩ (.slice xa (l.length+1) xc))
 rw[hva]at S0
 have HVA:=zH hva
 clear hva q1 q2 q3 b0 b1 b2 b3 b4 hW4 hv0 B4 V4 X4
 obtain⟨l0,hl0⟩:∃l0,l0=l++[e.op]:=⟨_,rfl⟩
 rw[←hl0]at S0 L0
 have E0:=zH hl0
 clear hl0
 obtain⟨h0,h2,h3,h4,e0,e2,e3,e4⟩:=S0.out.cells
 rw[←HVA.out]at S0 h0 h2 h3 h4 e0 e2 e3 e4
 clear HVA va
 go_wp2_with fail
 refine (S0.out.more HLT.out h.thread e.thread HH.out.thread HE.out.thread (by have:=L0.out;omega)).mono ?_
 rintro x w1 ⟨rfl,q⟩
 have S1:=zH q
 have L1:Hid ((l0++intB (w64 (e.thread-h.thread))).length≤l.length+11):=by
  have h1:=L0.out
  have h2:=intB_len (w64_in (e.thread-h.thread))
  show _≤_
  rw[List.length_append];omega
 have E1:Hid (l0++intB (w64 (e.thread-h.thread))=(l++[e.op])++intB (w64 (e.thread-h.thread))):=by show _=_;rw[E0.out]
 clear q S0
 generalize l0++intB (w64 (e.thread-h.thread))=l1 at S1 L1 E1
 obtain⟨h0,h2,h3,h4,e0,e2,e3,e4⟩:=S1.out.cells
 go_wp2_with fail
 refine (S1.out.more HLT.out h.obj e.obj HH.out.obj HE.out.obj (by have:=L1.out;omega)).mono ?_
 rintro x w2 ⟨rfl,q⟩
 have S2:=zH q
 have L2:Hid ((l1++intB (w64 (e.obj-h.obj))).length≤l.length+21):=by
  have h1:=L1.out
  have h2:=intB_len (w64_in (e.obj-h.obj))
  show _≤_
  rw[List.length_append];omega
 have E2:Hid (l1++intB (w64 (e.obj-h.obj))=((l++[e.op])++intB (w64 (e.thread-h.thread)))++intB (w64 (e.obj-h.obj))):=by show _=_;rw[E1.out]
 clear q S1
 generalize l1++intB (w64 (e.obj-h.obj))=l2 at S2 L2 E2
 obtain⟨h0,h2,h3,h4,e0,e2,e3,e4⟩:=S2.out.cells
 go_wp2_with fail
 refine (S2.out.more HLT.out h.a e.a HH.out.a HE.out.a (by have:=L2.out;omega)).mono ?_
 rintro x w3 ⟨rfl,q⟩
 have S3:=zH q
 have L3:Hid ((l2++intB (w64 (e.a-h.a))).length≤l.length+31):=by
  have h1:=L2.out
  have h2:=intB_len (w64_in (e.a-h.a))
  show _≤_
  rw[List.length_append];omega
 have E3:Hid (l2++intB (w64 (e.a-h.a))=(((l++[e.op])++intB (w64 (e.thread-h.thread)))++intB (w64 (e.obj-h.obj)))++intB (w64 (e.a-h.a))):=by show _=_;rw[E2.out]
 clear q S2
 generalize l2++intB (w64 (e.a-h.a))=l3 at S3 L3 E3
 obtain⟨h0,h2,h3,h4,e0,e2,e3,e4⟩:=S3.out.cells
 go_wp2_with fail
 refine (S3.out.more HLT.out h.b e.b HH.out.b HE.out.b (by have:=L3.out;omega)).mono ?_
 rintro x w4 ⟨rfl,q⟩
 have S4:=zH q
 have L4:Hid ((l3++intB (w64 (e.b-h.b))).length≤l.length+41):=by
  have h1:=L3.out
  have h2:=intB_len (w64_in (e.b-h.b))
  show _≤_
  rw[List.length_append];omega
 have E4:Hid (l3++intB (w64 (e.b-h.b))=((((l++[e.op])++intB (w64 (e.thread-h.thread)))++intB (w64 (e.obj-h.obj)))++intB (w64 (e.a-h.a)))++intB (w64 (e.b-h.b))):=by show _=_;rw[E3.out]
 clear q S3
 generalize l3++intB (w64 (e.b-h.b))=l4 at S4 L4 E4
 obtain⟨h0,h2,h3,h4,e0,e2,e3,e4⟩:=S4.out.cells
 have HF:Hid (l++putE h e=l4):=by
  show _=_
  rw[E4.out]
  simp[putE]
 obtain⟨v4,d1,d2,d3⟩:=S4.out.box
 have c4:w4.cell? ⟨w.heap.size,0,none⟩=some v4:=by simp[World.cell?,d1]
 obtain⟨za,zc,rfl,-⟩:=d2.len
 have D2:=zH (And.intro d2 d3)
 clear d1 d2 d3 h0 h2 h3 h4 e0 e2 e3 e4
 go_wp2
 go_ret
 refine⟨_,rfl,?_,S4.out.only,D2.out.2.imp id fun h g hg=>by have:=h g hg;omega⟩
 rw[HF.out];exact D2.out.1
end Go.Proofs.YtkbenkldfehhlaaGreatDoor
