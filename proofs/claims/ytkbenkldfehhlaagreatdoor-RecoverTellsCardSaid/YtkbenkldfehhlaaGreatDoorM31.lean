/-
  Texts merged by a program of this claim's: HeadPlain, DocGetE, Ref05L.
-/
import Derived.Test.YtkbenkldfehhlaaGreatDoorM17
import Derived.Test.YtkbenkldfehhlaaGreatDoorM6
import Derived.Test.YtkbenkldfehhlaaGreatDoorM30
import Derived.Test.YtkbenkldfehhlaaGreatDoorM20
import Derived.Test.YtkbenkldfehhlaaGreatDoorM23
import Derived.Test.YtkbenkldfehhlaaGreatDoorM27
namespace Go.Proofs.YtkbenkldfehhlaaGreatDoor
set_option maxRecDepth 100000
theorem getU_canon {b:List UInt8}{at_:Int}{n:Nat}{x:Int}(h:getU b at_=(n,x,0)):∃a k:Nat,at_=a∧x=((a+k:Nat):Int)∧(b.drop a).take k=uintB n∧0<k∧a+k≤b.length∧n<2 ^ 64:=by
 unfold getU at h
 split at h
 ·simp at h
 rename_i h1
 split at h
 ·simp at h
 split at h
 ·simp at h
 rename_i h2 h3
 obtain⟨m,j,a1,a2,a3,a4,a5,a6,-⟩:=numF_inv (b.drop at_.toNat) 0 0 _ _ rfl (by omega) (by omega)
 rw[List.length_drop]at a3
 simp only[Nat.mul_zero,Nat.pow_zero,Nat.mul_one,Nat.zero_add,Int.natCast_zero,Int.zero_add]at a4 a5 a6
 simp only[Prod.mk.injEq,and_true]at h
 obtain⟨h4,h5⟩:=h
 rw[a4]at h4
 rw[a5]at h5
 subst h4
 exact⟨at_.toNat,j,by omega,by omega,a1,a2,by omega,a6⟩
theorem headR_short {b:List UInt8}{k:Nat}(h4:k<4) (hk:b.length≤k) (ht:b.take k=plainS.take k):headR b=(0,0,11):=by
 have e:b.take 4=plainS.take k:=by rw[List.take_of_length_le (by omega),←ht,List.take_of_length_le hk]
 unfold headR
 rw[if_neg (by rw[e];simpa using List.take_prefix k plainS),if_pos (by omega)]
theorem headR_wrong {b:List UInt8}{k:Nat}(h4:k<plainS.length) (hk:k<b.length) (hne:b[k]≠plainS[k]):headR b=(0,0,10):=by
 unfold headR
 rw[if_pos]
 rintro ⟨t,ht⟩
 apply hne
 have h5:k<4:=h4
 have h6:(b.take 4)[k]? = plainS[k]?:=by rw[←ht,List.getElem?_append_left (by simp;omega)]
 rw[List.getElem?_take_of_lt h5,List.getElem?_eq_getElem hk,List.getElem?_eq_getElem h4]at h6
 exact Option.some.inj h6
theorem headR_mid {b:List UInt8}(ht:b.take 4=plainS) (hl:4≤b.length){n:Nat}{x e:Int}(hu:getU b 4=(n,x,e)) :
  headR b=(if e≠0 then (0,0,e) else if 4611686018427387904<n then (0,0,10) else if (b.length:Int)<x+4 then (0,0,11) else if headB n <+: b then ((n:Int),(((headB n).length:Nat):Int),0) else (0,0,12)) ∧
   (e=0→(((headB n).length:Nat):Int)=x+4):=by
 by_cases he:e=0
 case neg =>
  refine⟨?_,fun h=>absurd h he⟩
  rw[if_pos he]
  unfold headR
  rw[hu,ht,if_neg (by simp),if_neg (by omega),if_neg (fun h=>he h.1),if_pos he]
 subst he
 obtain⟨a,k,ha,rfl,hc,hk,hle,hn⟩:=getU_canon hu
 obtain rfl:a=4:=by omega
 have hx:b.take (4+k)=plainS++uintB n:=by
  rw[List.take_add,ht,hc]
 have hhl:(headB n).length=4+k+4:=by
  have:(b.take (4+k)).length=4+k:=by rw[List.length_take];omega
  rw[hx]at this
  show (sealB sumB (plainS++uintB n)).length=_
  simp only[sealB,List.length_append,sumB_len]at this ⊢
  omega
 refine⟨?_,fun _=>by rw[hhl];omega⟩
 rw[if_neg (by simp)]
 unfold headR
 rw[hu,ht,if_neg (by simp),if_neg (by omega)]
 by_cases h1:4611686018427387904<n
 ·rw[if_pos ⟨rfl,h1⟩,if_pos h1]
 rw[if_neg (fun h=>h1 h.2),if_neg h1,if_neg (by simp)]
 by_cases h2:(b.length:Int)<((4+k:Nat):Int)+4
 ·rw[if_pos h2,if_pos h2]
 rw[if_neg h2,if_neg h2]
 simp only[Int.toNat_natCast]
 have hbl:(b.take (4+k+4)).length=4+k+4:=by rw[List.length_take];omega
 have htt:(b.take (4+k+4)).take (4+k)=plainS++uintB n:=by rw[List.take_take,Nat.min_eq_left (by omega),hx]
 have hun:unsealB (b.take (4+k+4))=if headB n=b.take (4+k+4) then (plainS++uintB n,0) else ([],12):=by
  unfold unsealB
  rw[hbl,if_neg (by omega),show 4+k+4-4=4+k by omega,htt]
  rfl
 have hiff:headB n <+: b↔headB n=b.take (4+k+4):=by
  rw[List.prefix_iff_eq_take,hhl]
 rw[hun]
 by_cases h3:headB n=b.take (4+k+4)
 ·rw[if_pos h3,if_neg (by simp),if_pos (hiff.2 h3),hhl]
  refine Prod.ext rfl (Prod.ext ?_ rfl)
  simp only
  omega
 ·rw[if_neg h3,if_pos (by simp),if_neg (fun h=>h3 (hiff.1 h))]
theorem unseal_mid {b:List UInt8}{k n:Nat}(h:k+n+4≤b.length):unsealB ((b.drop k).take (n+4))=if sumB ((b.drop k).take n)=(b.drop (k+n)).take 4 then ((b.drop k).take n,0) else ([],12):=by
 have hl:((b.drop k).take (n+4)).length=n+4:=by rw[List.length_take,List.length_drop];omega
 have h1:((b.drop k).take (n+4)).take n=(b.drop k).take n:=by rw[List.take_take,Nat.min_eq_left (by omega)]
 have h2:(b.drop k).take (n+4)=(b.drop k).take n++(b.drop (k+n)).take 4:=by rw[List.take_add,List.drop_drop]
 unfold unsealB
 rw[hl,if_neg (by omega),show n+4-4=n by omega,h1]
 have hiff:sealB sumB ((b.drop k).take n)=(b.drop k).take (n+4)↔sumB ((b.drop k).take n)=(b.drop (k+n)).take 4:=by
  rw[h2]
  unfold sealB
  exact⟨fun h=>List.append_cancel_left h,fun h=>by rw[h]⟩
 by_cases h3:sumB ((b.drop k).take n)=(b.drop (k+n)).take 4
 ·rw[if_pos (hiff.2 h3),if_pos h3]
 ·rw[if_neg (fun h=>h3 (hiff.1 h)),if_neg h3]
theorem evsFrom_bound {b:List UInt8}:∀(n:Nat) (at_:Int) (x:Ev) (acc l:List Ev) (to_:Int),evsFrom b n at_ x acc=some (l,to_)→at_≤b.length→to_≤b.length
 |0,at_,x,acc,l,to_,h,ha=>by
  simp only[evsFrom,Option.some.injEq,Prod.mk.injEq]at h
  omega
 |n+1,at_,x,acc,l,to_,h,ha=>by
  unfold evsFrom at h
  split at h
  ·cases h
  ·rename_i he
   have hx:=getE_fine (b:=b) (at_:=at_) (x:=x) (by rcases Decidable.em ((getE b at_ x).2.2=0) with h|h;exact h;exact absurd h he)
   exact evsFrom_bound n _ _ _ _ _ h (by omega)
open Go Go.RowKit Go.Sort
set_option maxHeartbeats 1600000
def stepsI (b:List UInt8) (at_:Int):Nat→Int×Int×Int
 |0=>(0,at_,0)
 |k+1=>thenI b (stepsI b at_ k)
theorem stepsI_err {b:List UInt8}{at_:Int}{k:Nat}(h:(stepsI b at_ k).2.2≠0):∀j,(stepsI b at_ (k+j)).2.2=(stepsI b at_ k).2.2
 |0=>rfl
 |j+1=>by
  have ih:=stepsI_err h j
  show (thenI b (stepsI b at_ (k+j))).2.2=_
  unfold thenI
  rw[if_neg (by rw[ih];exact h)]
  exact ih
theorem getE_steps (b:List UInt8) (at_:Int) (h:Ev):getE b at_ h =
  if at_<0∨(b.length:Int)<at_ then (Ev.zero,0,2) else if at_=b.length then (Ev.zero,0,11) else
  if (stepsI b (at_+1) 4).2.2≠0 then (Ev.zero,0,(stepsI b (at_+1) 4).2.2) else
  (⟨w64 (h.thread+(stepsI b (at_+1) 1).1),b.getD at_.toNat 0,w64 (h.obj+(stepsI b (at_+1) 2).1),w64 (h.a+(stepsI b (at_+1) 3).1),w64 (h.b+(stepsI b (at_+1) 4).1)⟩,(stepsI b (at_+1) 4).2.1,0):=rfl
def numsK (b:List UInt8) (at_:Int) (h:Ev):Nat→List Int
 |0=>fourI h
 |k+1=>(numsK b at_ h k).set k (w64 ((numsK b at_ h k).getD k 0+(stepsI b at_ (k+1)).1))
theorem numsK_len (b:List UInt8) (at_:Int) (h:Ev):∀k,(numsK b at_ h k).length=4
 |0=>rfl
 |k+1=>by rw[numsK,List.length_set];exact numsK_len b at_ h k
theorem numsK_in (b:List UInt8) (at_:Int){h:Ev}(hh:h.Ok):∀k,∀x∈numsK b at_ h k,in64 x
 |0,x,hx=>fourI_in hh x hx
 |k+1,x,hx=>by
  rw[numsK]at hx
  rcases List.mem_or_eq_of_mem_set hx with hx|rfl
  ·exact numsK_in b at_ hh k x hx
  ·exact w64_in _
theorem numsK_4 (b:List UInt8) (at_:Int) (h:Ev):numsK b at_ h 4=[w64 (h.thread+(stepsI b at_ 1).1),w64 (h.obj+(stepsI b at_ 2).1),w64 (h.a+(stepsI b at_ 3).1),w64 (h.b+(stepsI b at_ 4).1)]:=rfl
theorem nums_cell {w:World}{p:Nat}{ns:List Int}{T:TypeId}(h:w.heap[p]? = some (.cells (ns.map (Value.int .i64)).toArray T (0,0))){k:Nat}(hk:k<ns.length):w.cell? ⟨p,k,none⟩=some (.int .i64 (ns.getD k 0))∧w.frozen? ⟨p,k,none⟩=false:=by
 simp[World.cell?,World.frozen?,h,hk,List.getD]
theorem nums_set {w:World}{p:Nat}{ns:List Int}{T:TypeId}(h:w.heap[p]? = some (.cells (ns.map (Value.int .i64)).toArray T (0,0))) (k:Nat) (x:Int):(w.setCell ⟨p,k,none⟩ (.int .i64 x)).heap[p]? = some (.cells ((ns.set k x).map (Value.int .i64)).toArray T (0,0)):=by
 have:=heap_setCell_at h k (.int .i64 x)
 rw[this]
 simp
theorem sum_u64 (a b:Int):IntKind.i64.wrap (IntKind.u64.wrap (IntKind.u64.wrap a+IntKind.u64.wrap b))=w64 (a+b):=by
 simp only[IntKind.wrap_i64,IntKind.wrap_u64,w64]
 omega
theorem dGet_ok {w:World}{v:Value}{b:List UInt8}(hv:Bs w v b) (hl:b.length≤14000000) (at_:Int) (ha:in64 at_) (h:Ev) (hh:h.Ok){e:Ev}{x y:Int}(hr:getE b at_ h=(e,x,y)) :
  Calls Tryz.prog 149 #[v,.int .i64 at_,.agg (evV h).toArray] w fun z w'=>z=.returned (.tuple #[.agg (evV e).toArray,.int .i64 x,.int .i64 y])∧Nw w w':=by
 obtain⟨va,vc,rfl,-,-,hel⟩:=hv.elems
 have HX:=zH (two_boxes w (evV h).toArray (evV Ev.zero).toArray 87 87)
 have V0:=zH hv
 have HEL:=zH hel
 obtain⟨n,hn⟩:=zN (b.length)
 have HN:=zH hn
 rw[hn]at hl V0 ⊢
 clear hv hel hn
 obtain⟨w1,hw1⟩:=zN ((w.alloc (.cells (evV h).toArray 87 (0,0))).alloc (.cells (evV Ev.zero).toArray 87 (0,0)))
 rw[hw1]at HX
 have hw1:(w.alloc (.cells #[.int .i64 h.thread,.int .u8 h.op.toNat,.int .i64 h.obj,.int .i64 h.a,.int .i64 h.b] 87 (0,0))).alloc (.cells #[.int .i64 0,.int .u8 0,.int .i64 0,.int .i64 0,.int .i64 0] 87 (0,0))=w1:=hw1
 have HH:=zH hh
 clear hh
 rw[getE_steps]at hr
 have HR:=zH hr
 clear hr
 obtain⟨ha0,ha1⟩:=ha
 by_cases c0:at_<0∨(n:Int)<at_
 ·have r:=HR.out
  rw[HN.out,if_pos c0]at r
  cases r
  have HB:=zH HX.out.2.2.1
  have q0:((if decide (at_<0) then true else decide ((n:Int)<at_)):Bool)=true:=by
   rcases c0 with h|h <;> simp[h]
  clear HR HH HEL
  unfold evV Ev.zero
  by_cases c1:at_<0
  ·have q1:decide (at_<0)=true:=by simpa using c1
   go_enter Tryz.func149,Tryz.ntmps149
   go_upto_region 1 with fail
   clear hw1
   obtain⟨x0,x1,x2,x3,x4,xf⟩:=evV_cells HB.out
   have z0:=xf 0
   have z1:=xf 1
   have z2:=xf 2
   have z3:=xf 3
   have z4:=xf 4
   have hb5:=heap_set5 (w1:=w1) (p:=w.heap.size+1) (t:=87) HB.out (.int .i64 0) (.int .u8 0) (.int .i64 0) (.int .i64 0) (.int .i64 0)
   have ho5:=only_set5 w1 (w.heap.size+1) (.int .i64 0) (.int .u8 0) (.int .i64 0) (.int .i64 0) (.int .i64 0)
   have N:=zH (HX.out.1.trans' ho5 (fun k hk hc=>by omega))
   obtain⟨r0,r1,r2,r3,r4,-⟩:=evV_cells (h:=⟨0,0,0,0,0⟩) hb5
   clear hb5 ho5 xf
   go_wp2
   refine bodyPost_ret (v:=.tuple #[.agg #[.int .i64 0,.int .u8 0,.int .i64 0,.int .i64 0,.int .i64 0],.int .i64 0,.int .i64 2]) (by simp[results,Tryz.results149,go_sem,r0,r1,r2,r3,r4]) rfl ⟨rfl,N.out⟩
  ·have q1:decide (at_<0)=false:=by simpa using c1
   have q2:decide ((n:Int)<at_)=true:=by simpa using c0.resolve_left c1
   go_enter Tryz.func149,Tryz.ntmps149
   go_upto_region 1 with fail
   clear hw1
   obtain⟨x0,x1,x2,x3,x4,xf⟩:=evV_cells HB.out
   have z0:=xf 0
   have z1:=xf 1
   have z2:=xf 2
   have z3:=xf 3
   have z4:=xf 4
   have hb5:=heap_set5 (w1:=w1) (p:=w.heap.size+1) (t:=87) HB.out (.int .i64 0) (.int .u8 0) (.int .i64 0) (.int .i64 0) (.int .i64 0)
   have ho5:=only_set5 w1 (w.heap.size+1) (.int .i64 0) (.int .u8 0) (.int .i64 0) (.int .i64 0) (.int .i64 0)
   have N:=zH (HX.out.1.trans' ho5 (fun k hk hc=>by omega))
   obtain⟨r0,r1,r2,r3,r4,-⟩:=evV_cells (h:=⟨0,0,0,0,0⟩) hb5
   clear hb5 ho5 xf
   go_wp2
   refine bodyPost_ret (v:=.tuple #[.agg #[.int .i64 0,.int .u8 0,.int .i64 0,.int .i64 0,.int .i64 0],.int .i64 0,.int .i64 2]) (by simp[results,Tryz.results149,go_sem,r0,r1,r2,r3,r4]) rfl ⟨rfl,N.out⟩
 obtain⟨k,rfl⟩:∃k:Nat,at_=k:=⟨at_.toNat,by omega⟩
 have hkn:k≤n:=by omega
 have q1:decide ((k:Int)<0)=false:=by simp
 have q2:decide ((n:Int)<(k:Int))=false:=by simp;omega
 by_cases c2:k=n
 ·subst c2
  have r:=HR.out
  rw[HN.out,if_neg c0,if_pos rfl]at r
  cases r
  have HB:=zH HX.out.2.2.1
  clear HR HH HEL
  unfold evV Ev.zero
  go_enter Tryz.func149,Tryz.ntmps149
  go_upto_region 1 with fail
  clear hw1
  obtain⟨x0,x1,x2,x3,x4,xf⟩:=evV_cells HB.out
  have z0:=xf 0
  have z1:=xf 1
  have z2:=xf 2
  have z3:=xf 3
  have z4:=xf 4
  have hb5:=heap_set5 (w1:=w1) (p:=w.heap.size+1) (t:=87) HB.out (.int .i64 0) (.int .u8 0) (.int .i64 0) (.int .i64 0) (.int .i64 0)
  have ho5:=only_set5 w1 (w.heap.size+1) (.int .i64 0) (.int .u8 0) (.int .i64 0) (.int .i64 0) (.int .i64 0)
  have N:=zH (HX.out.1.trans' ho5 (fun k hk hc=>by omega))
  obtain⟨r0,r1,r2,r3,r4,-⟩:=evV_cells (h:=⟨0,0,0,0,0⟩) hb5
  clear hb5 ho5 xf
  go_wp2
  refine bodyPost_ret (v:=.tuple #[.agg #[.int .i64 0,.int .u8 0,.int .i64 0,.int .i64 0,.int .i64 0],.int .i64 0,.int .i64 11]) (by simp[results,Tryz.results149,go_sem,r0,r1,r2,r3,r4]) rfl ⟨rfl,N.out⟩
 have hk:k<n:=by omega
 have q3:((k:Int)==(n:Int))=false:=by simp;omega
 have r:=HR.out
 rw[HN.out,if_neg c0,if_neg (by omega)]at r
 obtain⟨g,o,rfl,hg,hcell⟩:=HEL.out k (by rw[HN.out];exact hk)
 obtain⟨op,hop⟩:∃u:UInt8,b[k]'(by rw[HN.out];exact hk)=u:=⟨_,rfl⟩
 rw[hop]at hcell
 have hgd:b.getD (k:Int).toNat 0=op:=by rw[←hop];simp[List.getD,HN.out,hk]
 rw[hgd]at r
 have HR:=zH r
 have hc1:=HX.out.1.cell hcell
 have hg1:=Nat.lt_of_lt_of_le hg HX.out.1.size
 change World.cell? _ _=some (.int .u8 (op.toNat:Int)) at hc1
 clear hgd hop hcell hg c0 HEL r c2
 have hwk:IntKind.i64.wrap ((k:Int)+1)=(k:Int)+1:=IntWalk.i64_in _ (by omega)
 unfold evV
 go_enter Tryz.func149,Tryz.ntmps149
 go_upto_region 1 with fail
 clear hw1
 obtain⟨y0,y1,y2,y3,y4,-⟩:=evV_cells HX.out.2.1
 have F:=zH (four_ok h w1)
 go_wp2_with fail
 refine F.out.mono ?_
 rintro z w2 ⟨rfl,n2⟩
 have B5:=zH (n2.at_ HX.out.2.2.1)
 have N2:=zH (HX.out.1.trans n2)
 have NA:=zH ((Nw.refl w2).alloc (.cells #[.int .i64 h.thread,.int .i64 h.obj,.int .i64 h.a,.int .i64 h.b] 188))
 have BA:Hid ((w2.alloc (.cells #[.int .i64 h.thread,.int .i64 h.obj,.int .i64 h.a,.int .i64 h.b] 188)).heap[w2.heap.size]? = some (.cells ((fourI h).map (Value.int .i64)).toArray 188 (0,0))):=zH (heap_alloc_new w2 _)
 have HP:Hid (w.heap.size+1<w2.heap.size):=zH (by have:=lt_of_block B5.out;omega)
 clear n2 F y0 y1 y2 y3 y4 hc1
 obtain⟨p10,hp10⟩:=zN (w2.heap.size)
 rw[hp10]at BA HP
 go_upto_region 8 with fail
 generalize w2.alloc (.cells #[.int .i64 h.thread,.int .i64 h.obj,.int .i64 h.a,.int .i64 h.b] 188)=w3 at NA BA ⊢
 (try rw[hp10])
 have B53:=zH (NA.out.at_ B5.out)
 have N3:=zH (N2.out.trans NA.out)
 clear hp10 NA B5 N2
 go_wp2
 go_loopw [1,11] (fun av iv wr=>∃(j:Nat) (at1:Int),j≤4∧iv=.int .i64 j∧av=.int .i64 at1∧0≤at1∧at1≤n∧(stepsI b ((k:Int)+1) j).2.1=at1∧(stepsI b ((k:Int)+1) j).2.2=0∧Nw w wr ∧
  wr.heap[p10]? = some (.cells ((numsK b ((k:Int)+1) h j).map (Value.int .i64)).toArray 188 (0,0))∧wr.heap[w.heap.size+1]? = some (.cells (evV Ev.zero).toArray 87 (0,0))) (fun _ iv _=>4-(intOf iv).toNat)
 case atStart=>exact⟨0,(k:Int)+1,by omega,rfl,rfl,by omega,by omega,rfl,rfl,N3.out,BA.out,B53.out⟩
 case round =>
  obtain⟨j,at1,hj,rfl,rfl,h0,h1,hs1,hs2,hw,hbx,hbr⟩:=hrel
  have HS1:=zH hs1
  have HS2:=zH hs2
  have HW:=zH hw
  have HBX:=zH hbx
  have HBR:=zH hbr
  clear hs1 hs2 hw hbx hbr BA B53 N3
  by_cases hj4:j<4
  ·have q4:decide ((j:Int)<4)=true:=by simp;omega
   obtain⟨⟨m,nx,ee⟩,hgi⟩:=zN (getI b at1)
   have CI:=zH (rGetInt_ok (V0.out.nw HW.out) (by rw[HN.out];exact hl) at1 (by omega) (by omega) hgi)
   have hst:stepsI b ((k:Int)+1) (j+1)=(m,nx,ee):=by
    show thenI b (stepsI b ((k:Int)+1) j)=_
    unfold thenI
    rw[if_pos HS2.out,HS1.out,hgi]
   have HST:=zH hst
   have hfi:=getI_fine (b:=b) (at_:=at1)
   rw[hgi,HN.out]at hfi
   simp only at hfi
   clear hgi hst
   by_cases c3:ee=0
   case neg =>
    have q5:(ee !=0)=true:=by simpa using c3
    have r:=HR.out
    have herr:(stepsI b ((k:Int)+1) 4).2.2=ee:=by
     have:=stepsI_err (b:=b) (at_:=(k:Int)+1) (k:=j+1) (by rw[HST.out];exact c3) (3-j)
     rw[show j+1+(3-j)=4 by omega,HST.out]at this
     exact this
    rw[herr,if_pos c3]at r
    cases r
    clear hfi herr HR
    go_wp2_with fail
    refine CI.out.mono ?_
    rintro z w4 ⟨rfl,n4⟩
    have hbr:=n4.at_ HBR.out
    obtain⟨x0,x1,x2,x3,x4,xf⟩:=evV_cells hbr
    have z0:=xf 0
    have z1:=xf 1
    have z2:=xf 2
    have z3:=xf 3
    have z4:=xf 4
    have hb5:=heap_set5 (w1:=w4) (p:=w.heap.size+1) (t:=87) hbr (.int .i64 0) (.int .u8 0) (.int .i64 0) (.int .i64 0) (.int .i64 0)
    have ho5:=only_set5 w4 (w.heap.size+1) (.int .i64 0) (.int .u8 0) (.int .i64 0) (.int .i64 0) (.int .i64 0)
    have N:=zH ((HW.out.trans n4).trans' ho5 (fun k hk hc=>by omega))
    obtain⟨r0,r1,r2,r3,r4,-⟩:=evV_cells (h:=⟨0,0,0,0,0⟩) hb5
    clear hb5 ho5 xf n4 hbr
    go_wp2
    refine bodyPost_ret (v:=.tuple #[.agg #[.int .i64 0,.int .u8 0,.int .i64 0,.int .i64 0,.int .i64 0],.int .i64 0,.int .i64 y]) (by simp[results,Tryz.results149,go_sem,r0,r1,r2,r3,r4]) rfl ⟨rfl,N.out⟩
   subst c3
   obtain⟨i1,i2,i3⟩:=hfi rfl
   have hmi:=getI_in (b:=b) (at_:=at1)
   clear hfi
   have hlen:=numsK_len b ((k:Int)+1) h j
   have hin:=numsK_in b ((k:Int)+1) HH.out j
   obtain⟨ns,hns⟩:=zN (numsK b ((k:Int)+1) h j)
   have hnx:numsK b ((k:Int)+1) h (j+1)=ns.set j (w64 (ns.getD j 0+m)):=by
    rw[numsK,hns,HST.out]
   rw[hns]at HBX hlen
   have HNX:=zH hnx
   have HLEN:=zH hlen
   clear hns hin hnx hlen hmi
   obtain⟨nj,hnj⟩:=zN (ns.getD j 0)
   rw[hnj]at HNX
   have HNJ:=zH hnj
   clear hnj
   have q6:decide ((j:Int)<4)=true:=q4
   have SU:=sum_u64 nj m
   have hwk2:IntKind.i64.wrap ((j:Int)+1)=((j+1:Nat):Int):=by rw[←Int.natCast_one,←Int.natCast_add];exact IntWalk.i64_in _ (by omega)
   go_wp2_with fail
   refine CI.out.mono ?_
   rintro z w4 ⟨rfl,n4⟩
   have hbx:=n4.at_ HBX.out
   obtain⟨e1,e2⟩:=nums_cell hbx (k:=j) (by rw[HLEN.out];exact hj4)
   rw[HNJ.out]at e1
   have hpl:=lt_of_block hbx
   have BX:=zH (nums_set hbx j (w64 (nj+m)))
   have NS:Only (fun q=>q=p10) w4 (w4.setCell ⟨p10,j,none⟩ (.int .i64 (w64 (nj+m)))):=Only.setCell (S:=fun q=>q=p10) (p:=⟨p10,j,none⟩) (Only.refl w4) (fun _=>rfl) _
   have BR:=zH (NS.at_ (n4.at_ HBR.out) (by have:=HP.out;omega))
   have NW4:=zH ((HW.out.trans n4).trans' NS (fun q hq hc=>by have:=HP.out;omega))
   have hj0:(0:Int)≤(j:Int):=by omega
   clear n4 hbx NS
   go_wp2
   go_roundw
   case rel=>exact⟨j+1,nx,by omega,by first|rfl|(simp;done)|rw[hwk2],rfl,by omega,by omega,by rw[HST.out],by rw[HST.out],NW4.out,by rw[HNX.out];exact BX.out,BR.out⟩
   case measure=>simp only[intOf];omega
  ·obtain rfl:j=4:=by omega
   have r:=HR.out
   rw[HS2.out,if_neg (by simp),HS1.out]at r
   obtain⟨m0,h0'⟩:=zN (w64 (h.thread+(stepsI b ((k:Int)+1) 1).1))
   obtain⟨m1,h1'⟩:=zN (w64 (h.obj+(stepsI b ((k:Int)+1) 2).1))
   obtain⟨m2,h2'⟩:=zN (w64 (h.a+(stepsI b ((k:Int)+1) 3).1))
   obtain⟨m3,h3'⟩:=zN (w64 (h.b+(stepsI b ((k:Int)+1) 4).1))
   have hn4:=numsK_4 b ((k:Int)+1) h
   rw[h0',h1',h2',h3']at hn4 r
   cases r
   have hbx:=HBX.out
   rw[hn4]at hbx
   obtain⟨y0,y1,y2,y3,-⟩:=box_cells (a:=.int .i64 m0) (b:=.int .i64 m1) (c:=.int .i64 m2) (d:=.int .i64 m3) hbx
   have hpl:=lt_of_block hbx
   obtain⟨x0,x1,x2,x3,x4,xf⟩:=evV_cells HBR.out
   have z0:=xf 0
   have z1:=xf 1
   have z2:=xf 2
   have z3:=xf 3
   have z4:=xf 4
   have hb5:=heap_set5 (w1:=wr) (p:=w.heap.size+1) (t:=87) HBR.out (.int .i64 m0) (.int .u8 op.toNat) (.int .i64 m1) (.int .i64 m2) (.int .i64 m3)
   have ho5:=only_set5 wr (w.heap.size+1) (.int .i64 m0) (.int .u8 op.toNat) (.int .i64 m1) (.int .i64 m2) (.int .i64 m3)
   have N:=zH (HW.out.trans' ho5 (fun k hk hc=>by omega))
   obtain⟨r0,r1,r2,r3,r4,-⟩:=evV_cells (h:=⟨m0,op,m1,m2,m3⟩) hb5
   clear hb5 ho5 xf hbx hn4 h0' h1' h2' h3' HR HS1 HS2 HBX
   go_wp2
   refine bodyPost_ret (v:=.tuple #[.agg #[.int .i64 m0,.int .u8 op.toNat,.int .i64 m1,.int .i64 m2,.int .i64 m3],.int .i64 x,.int .i64 0]) (by simp[results,Tryz.results149,go_sem,r0,r1,r2,r3,r4]) rfl ⟨rfl,N.out⟩
end Go.Proofs.YtkbenkldfehhlaaGreatDoor
namespace Go.Proofs.YtkbenkldfehhlaaGreatDoor.dListed
open Go Go.RowKit Go.Sort
set_option maxRecDepth 100000
set_option maxHeartbeats 3200000
theorem r26 {w6:World}{pg po ul xc k3 m sc nl nc:Nat}{x1 y1 cb:Int}{pd:Bool}{sa na:Option Addr}{cs:List Value}{nm:List UInt8}
  (V10:Hid (Vec 4 w6 (.slice sa m sc) m cs)) (B12:Hid (Bs w6 (.slice na nl nc) nm))
  (C1:Hid (w6.cell? ⟨pg,po+k3,none⟩=some (.int .u8 cb))) (L1:Hid (pg<w6.heap.size)) (HK:Hid (k3<ul)) (HD:Hid ((cb==1)=pd))
  (H1:Hid (IntKind.i64.wrap x1=x1)) (H2:Hid (IntKind.i64.wrap y1=y1)) (hb:m≤1000000000)
  {u0 u1 u2 u3 u5 u6 u7 u8 u9 u11 u14 u17 u18 u19 u20 u21 u22 u23 u24 u25 u26 u27 u28 u29 u30 u31 u32 u33 u34 u35 u36 u37 u38 u39 u40 u41 u42 u43 u44 u45 u46 u47 u48 u49 u50 u51 u52 u53 u54 u55 u56 u57 u58 u59 u60 u61 u62 u63 u64 u65 u66 u67 u68 u69 u70 u71 u72 u73 u74 u75 u76 u77 u78 u79 u80 u81 u82 u83 u84 u85 u86 u87 u88 u89 u90 u91 u92 u93 u94 u95 u96 u97 u98 u99 u100 u101 u102 u103 u104 u105 u106 u107 u108 u109 u110 u111 u112 u113 u114 u115 u116 u117 u118 u119 u120 u121 u122 u123 u124 u125 u126 u127 u128 u129 u130:Value}{Q:Exit→Act→World→Prop}(hP:PanicOk Q)
  (hQ:∀(s106 s107 s108 s109 s110 s111 s112 s113 s114 s115 s116 s117 s118 s119 s120 s10:Value) (a':Option Addr) (c':Nat) (wx:World),s10=.slice a' (m+1) c'→Vec 4 wx s10 (m+1) (cs++[.string ⟨nm.toArray⟩,.int .i64 x1,.int .i64 y1,.bool pd])→Only (fun k=>(Value.slice sa m sc).ownBlock=some k) w6 wx→((Value.slice a' (m+1) c').ownBlock=(Value.slice sa m sc).ownBlock∨∀g,(Value.slice a' (m+1) c').ownBlock=some g→w6.heap.size≤g)→Q .normal ⟨#[u0,u1,u2,u3,.slice (some ⟨pg,po,none⟩) ul xc,u5,u6,u7,u8,u9,s10,u11,.slice na nl nc,.int .i64 k3,u14,.int .u64 x1,.int .u64 y1,u17,u18,u19,u20,u21,u22,u23,u24,u25,u26,u27,u28,u29,u30,u31,u32,u33,u34,u35,u36,u37,u38,u39,u40,u41,u42,u43,u44,u45,u46,u47,u48,u49,u50,u51,u52,u53,u54,u55,u56,u57,u58,u59,u60,u61,u62,u63,u64,u65,u66,u67,u68,u69,u70,u71,u72,u73,u74,u75,u76,u77,u78,u79,u80,u81,u82,u83,u84,u85,u86,u87,u88,u89,u90,u91,u92,u93,u94,u95,u96,u97,u98,u99,u100,u101,u102,u103,u104,u105,s106,s107,s108,s109,s110,s111,s112,s113,s114,s115,s116,s117,s118,s119,s120,u121,u122,u123,u124,u125,u126,u127,u128,u129,u130],[]⟩ wx) :
  Code.wp Tryz.prog ((Tryz.f46.body.bind (regionOf 26)).getD .skip) Q ⟨#[u0,u1,u2,u3,.slice (some ⟨pg,po,none⟩) ul xc,u5,u6,u7,u8,u9,.slice sa m sc,u11,.slice na nl nc,.int .i64 k3,u14,.int .u64 x1,.int .u64 y1,u17,u18,u19,u20,u21,u22,u23,u24,u25,u26,u27,u28,u29,u30,u31,u32,u33,u34,u35,u36,u37,u38,u39,u40,u41,u42,u43,u44,u45,u46,u47,u48,u49,u50,u51,u52,u53,u54,u55,u56,u57,u58,u59,u60,u61,u62,u63,u64,u65,u66,u67,u68,u69,u70,u71,u72,u73,u74,u75,u76,u77,u78,u79,u80,u81,u82,u83,u84,u85,u86,u87,u88,u89,u90,u91,u92,u93,u94,u95,u96,u97,u98,u99,u100,u101,u102,u103,u104,u105,u106,u107,u108,u109,u110,u111,u112,u113,u114,u115,u116,u117,u118,u119,u120,u121,u122,u123,u124,u125,u126,u127,u128,u129,u130],[]⟩ w6:=by
 dsimp only at hQ ⊢
 conv=>arg 2;whnf
 have HQ:=zH hQ
 clear hQ
 refine name_frame fun A hA=>?_
 have hlt:∀t,t<131→t<A.tmps.size:=fun t h=>by rw[hA];exact h
 have hA10:A.tmps[10]? = some (.slice sa m sc):=by rw[hA];rfl
 have hA12:A.tmps[12]? = some (.slice na nl nc):=by rw[hA];rfl
 have hA15:A.tmps[15]? = some (.int .u64 x1):=by rw[hA];rfl
 have hA16:A.tmps[16]? = some (.int .u64 y1):=by rw[hA];rfl
 have hA4:A.tmps[4]? = some (.slice (some ⟨pg,po,none⟩) ul xc):=by rw[hA];rfl
 have hA13:A.tmps[13]? = some (.int .i64 k3):=by rw[hA];rfl
 have HA:=zH hA
 clear hA
 refine rgn_open fun L hL=>?_
 have f0:=at_op (i:=0) hL rfl
 have f1:=at_op (i:=1) hL rfl
 have f2:=at_op (i:=2) hL rfl
 have f3:=at_op (i:=3) hL rfl
 have f4:=at_op (i:=4) hL rfl
 have f5:=at_op (i:=5) hL rfl
 have f6:=at_op (i:=6) hL rfl
 have f7:=at_op (i:=7) hL rfl
 have f8:=at_op (i:=8) hL rfl
 have f9:=at_op (i:=9) hL rfl
 have f10:=at_op (i:=10) hL rfl
 have f11:=at_op (i:=11) hL rfl
 have f12:=at_op (i:=12) hL rfl
 have f13:=at_op (i:=13) hL rfl
 have f14:=at_op (i:=14) hL rfl
 have f15:=at_op (i:=15) hL rfl
 have HL:=zH hL
 refine wp_region_steps 14 (.rd 0 :: .rd 1 :: .rd 2 :: .rd 3 :: .rd 4 :: .rd 5 :: .rd 6 :: .rd 7 :: .rd 8 :: .rd 9 :: .rd 10 :: .rd 11 :: .rd 12 :: .dn 13::[]) [14,15] (fun x=>Nw w6 x) (by kernel_rfl) (by rw[hL];kernel_rfl) hP (Nw.refl _).drew ?_
 have hC:Nw w6 w6.drew:=(Nw.refl _).drew
 clear HL hL
 refine rgn_rd1 (.slice sa m sc) f0 rfl (w_none rfl) (get_old (t:=10) rfl hA10) (fun ρ e0 ⟨c1,c2⟩ w hw=>by go_simp) ?_
 refine rgn_rd1 (.slice na nl nc) f1 rfl (w_none rfl) (get_old (t:=12) rfl hA12) (fun ρ e0 ⟨c1,c2⟩ w hw=>by go_simp) ?_
 refine rgn_rd1 (.string ⟨nm.toArray⟩) f2 rfl (w_none rfl) (get_hit (t:=107) rfl (hlt 107 (by decide))) (fun ρ e0 ⟨c1,c2⟩ w hw=>by have hc:=conv_str (B12.out.nw hw);go_simp) ?_
 refine rgn_rd1 (.int .u64 x1) f3 rfl (w_none rfl) (get_old (t:=15) rfl hA15) (fun ρ e0 ⟨c1,c2⟩ w hw=>by go_simp) ?_
 refine rgn_rd1 (.int .i64 x1) f4 rfl (w_none rfl) (get_hit (t:=109) rfl (hlt 109 (by decide))) (fun ρ e0 ⟨c1,c2⟩ w hw=>by have h:=H1.out;go_simp) ?_
 refine rgn_rd1 (.int .u64 y1) f5 rfl (w_none rfl) (get_old (t:=16) rfl hA16) (fun ρ e0 ⟨c1,c2⟩ w hw=>by go_simp) ?_
 refine rgn_rd1 (.int .i64 y1) f6 rfl (w_none rfl) (get_hit (t:=111) rfl (hlt 111 (by decide))) (fun ρ e0 ⟨c1,c2⟩ w hw=>by have h:=H2.out;go_simp) ?_
 refine rgn_rd1 (.slice (some ⟨pg,po,none⟩) ul xc) f7 rfl (w_none rfl) (get_old (t:=4) rfl hA4) (fun ρ e0 ⟨c1,c2⟩ w hw=>by go_simp) ?_
 refine rgn_rd1 (.int .i64 k3) f8 rfl (w_none rfl) (get_old (t:=13) rfl hA13) (fun ρ e0 ⟨c1,c2⟩ w hw=>by go_simp) ?_
 refine rgn_rd2 (.pointer (some ⟨pg,po+k3,none⟩)) f9 rfl (w_none rfl) (get_hit (t:=113) rfl (hlt 113 (by decide))) (get_hit (t:=114) rfl (hlt 114 (by decide))) (fun ρ e0 e1 ⟨c1,c2⟩ w hw=>by have hk:=HK.out;go_simp) ?_
 refine rgn_rd1 (.int .u8 cb) f10 rfl (w_none rfl) (get_hit (t:=115) rfl (hlt 115 (by decide))) (fun ρ e0 ⟨c1,c2⟩ w hw=>by have hc:=Nw.cell hw C1.out;have hl:=Nat.lt_of_lt_of_le L1.out (Only.size hw);go_simp) ?_
 refine rgn_rd1 (.bool pd) f11 rfl (w_none rfl) (get_hit (t:=116) rfl (hlt 116 (by decide))) (fun ρ e0 ⟨c1,c2⟩ w hw=>by have h:=HD.out;go_simp) ?_
 refine rgn_rd (.agg #[.string ⟨nm.toArray⟩,.int .i64 x1,.int .i64 y1,.bool pd]) [(108,.string ⟨nm.toArray⟩),(110,.int .i64 x1),(112,.int .i64 y1),(117,.bool pd)] f12 rfl (w_none rfl) (forall_cons (get_hit (t:=108) rfl (hlt 108 (by decide))) <| forall_cons (get_hit (t:=110) rfl (hlt 110 (by decide))) <| forall_cons (get_hit (t:=112) rfl (hlt 112 (by decide))) <| forall_cons (get_hit (t:=117) rfl (hlt 117 (by decide))) <| forall_nil) (fun ρ e ⟨c1,c2⟩ w hw=>by simp only[List.forall_mem_cons]at e;obtain⟨e0,e1,e2,e3,-⟩:=e;go_simp) ?_
 refine stp_dn f13 (fun K hK=>?_)
 have e0:=(get_hit (A:=A) (l:=[(118,.agg #[.string ⟨nm.toArray⟩,.int .i64 x1,.int .i64 y1,.bool pd]),(117,.bool pd),(116,.int .u8 cb),(115,.pointer (some ⟨pg,po+k3,none⟩)),(114,.int .i64 k3),(113,.slice (some ⟨pg,po,none⟩) ul xc),(112,.int .i64 y1),(111,.int .u64 y1),(110,.int .i64 x1),(109,.int .u64 x1),(108,.string ⟨nm.toArray⟩),(107,.slice na nl nc),(106,.slice sa m sc)]) (t:=118) rfl (hlt 118 (by decide)))
 have hnw:Nw w6 (w6.alloc (.cells #[.string ⟨nm.toArray⟩,.int .i64 x1,.int .i64 y1,.bool pd] 98 (0,0))).drew:=((Nw.refl _).alloc _).drew
 have hsrc:SrcV 4 (w6.alloc (.cells #[.string ⟨nm.toArray⟩,.int .i64 x1,.int .i64 y1,.bool pd] 98 (0,0))).drew (.slice (some ⟨w6.heap.size,0,none⟩) 1 1) 1 [.string ⟨nm.toArray⟩,.int .i64 x1,.int .i64 y1,.bool pd]:=(src_lit w6 98 (0,0) 4 1 1 [.string ⟨nm.toArray⟩,.int .i64 x1,.int .i64 y1,.bool pd] rfl (by omega) (by decide)).nw (Nw.refl _).drew
 have hvec:=V10.out.nw hnw
 have hsz:((w6.alloc (.cells #[.string ⟨nm.toArray⟩,.int .i64 x1,.int .i64 y1,.bool pd] 98 (0,0))).drew).heap.size=w6.heap.size+1:=by simp
 go_wp2
 change K (puts A ((119,.slice (some ⟨w6.heap.size,0,none⟩) 1 1)::[(118,.agg #[.string ⟨nm.toArray⟩,.int .i64 x1,.int .i64 y1,.bool pd]),(117,.bool pd),(116,.int .u8 cb),(115,.pointer (some ⟨pg,po+k3,none⟩)),(114,.int .i64 k3),(113,.slice (some ⟨pg,po,none⟩) ul xc),(112,.int .i64 y1),(111,.int .u64 y1),(110,.int .i64 x1),(109,.int .u64 x1),(108,.string ⟨nm.toArray⟩),(107,.slice na nl nc),(106,.slice sa m sc)])) (w6.alloc (.cells #[.string ⟨nm.toArray⟩,.int .i64 x1,.int .i64 y1,.bool pd] 98 (0,0))).drew
 generalize (w6.alloc (.cells #[.string ⟨nm.toArray⟩,.int .i64 x1,.int .i64 y1,.bool pd] 98 (0,0))).drew=W at hnw hsrc hvec hsz ⊢
 refine hK _ _ hnw ?_
 clear hK K e0
 refine wpSteps_nil ?_
 refine stp_num f14 ?_
 obtain⟨i0,hi,hz0,hz1,hz2⟩:=info_parts infoPc
 refine wpList_append_vec (v:=.slice sa m sc) (src:=.slice (some ⟨w6.heap.size,0,none⟩) 1 1) rfl _ _ 32 rfl 98 i0 (.agg #[.string ⟨#[]⟩,.int .i64 0,.int .i64 0,.bool false]) 4 40 Tryz.underlying32 hi hz0 hz1 hz2 rfl (by decide) (eval_of (get_hit (A:=A) (l:=((119,.slice (some ⟨w6.heap.size,0,none⟩) 1 1)::[(118,.agg #[.string ⟨nm.toArray⟩,.int .i64 x1,.int .i64 y1,.bool pd]),(117,.bool pd),(116,.int .u8 cb),(115,.pointer (some ⟨pg,po+k3,none⟩)),(114,.int .i64 k3),(113,.slice (some ⟨pg,po,none⟩) ul xc),(112,.int .i64 y1),(111,.int .u64 y1),(110,.int .i64 x1),(109,.int .u64 x1),(108,.string ⟨nm.toArray⟩),(107,.slice na nl nc),(106,.slice sa m sc)])) (t:=106) rfl (hlt 106 (by decide)))) (eval_of (get_hit (A:=A) (l:=((119,.slice (some ⟨w6.heap.size,0,none⟩) 1 1)::[(118,.agg #[.string ⟨nm.toArray⟩,.int .i64 x1,.int .i64 y1,.bool pd]),(117,.bool pd),(116,.int .u8 cb),(115,.pointer (some ⟨pg,po+k3,none⟩)),(114,.int .i64 k3),(113,.slice (some ⟨pg,po,none⟩) ul xc),(112,.int .i64 y1),(111,.int .u64 y1),(110,.int .i64 x1),(109,.int .u64 x1),(108,.string ⟨nm.toArray⟩),(107,.slice na nl nc),(106,.slice sa m sc)])) (t:=119) rfl (hlt 119 (by decide)))) hvec hsrc (fun u hu=>by simp only[List.mem_cons,List.not_mem_nil,or_false]at hu;rcases hu with rfl|rfl|rfl|rfl <;> rfl) (by unfold maxLen;omega) (by omega) ?_
 intro v5 w5 q5 q6 q7
 obtain⟨ta,tc,rfl,-⟩:=q5.len
 have hO:Only (fun k=>(Value.slice sa m sc).ownBlock=some k) w6 w5:=hnw.only.trans q6
 have hF:(Value.slice ta (m+1) tc).ownBlock=(Value.slice sa m sc).ownBlock∨∀g,(Value.slice ta (m+1) tc).ownBlock=some g→w6.heap.size≤g:=by
  rcases q7 with h|h
  ·exact .inl h
  ·exact .inr fun g hg=>Nat.le_trans hnw.size (h g hg)
 refine⟨fun h=>absurd h (by decide),?_⟩
 change wpNums _ _ _ _ _ [15] (puts A ((120,.slice ta (m+1) tc)::((119,.slice (some ⟨w6.heap.size,0,none⟩) 1 1)::[(118,.agg #[.string ⟨nm.toArray⟩,.int .i64 x1,.int .i64 y1,.bool pd]),(117,.bool pd),(116,.int .u8 cb),(115,.pointer (some ⟨pg,po+k3,none⟩)),(114,.int .i64 k3),(113,.slice (some ⟨pg,po,none⟩) ul xc),(112,.int .i64 y1),(111,.int .u64 y1),(110,.int .i64 x1),(109,.int .u64 x1),(108,.string ⟨nm.toArray⟩),(107,.slice na nl nc),(106,.slice sa m sc)]))) w5
 refine stp_num_val (.slice ta (m+1) tc) f15 rfl (w_none rfl) (by decide) ?_ (wpNums_nil ?_)
 ·have e0:=(get_hit (A:=A) (l:=((120,.slice ta (m+1) tc)::((119,.slice (some ⟨w6.heap.size,0,none⟩) 1 1)::[(118,.agg #[.string ⟨nm.toArray⟩,.int .i64 x1,.int .i64 y1,.bool pd]),(117,.bool pd),(116,.int .u8 cb),(115,.pointer (some ⟨pg,po+k3,none⟩)),(114,.int .i64 k3),(113,.slice (some ⟨pg,po,none⟩) ul xc),(112,.int .i64 y1),(111,.int .u64 y1),(110,.int .i64 x1),(109,.int .u64 x1),(108,.string ⟨nm.toArray⟩),(107,.slice na nl nc),(106,.slice sa m sc)]))) (t:=120) rfl (hlt 120 (by decide)))
  go_simp
 change Q .normal (puts A ((10,.slice ta (m+1) tc)::((120,.slice ta (m+1) tc)::((119,.slice (some ⟨w6.heap.size,0,none⟩) 1 1)::[(118,.agg #[.string ⟨nm.toArray⟩,.int .i64 x1,.int .i64 y1,.bool pd]),(117,.bool pd),(116,.int .u8 cb),(115,.pointer (some ⟨pg,po+k3,none⟩)),(114,.int .i64 k3),(113,.slice (some ⟨pg,po,none⟩) ul xc),(112,.int .i64 y1),(111,.int .u64 y1),(110,.int .i64 x1),(109,.int .u64 x1),(108,.string ⟨nm.toArray⟩),(107,.slice na nl nc),(106,.slice sa m sc)])))) w5
 exact cast_frame (by rw[HA.out];kernel_rfl) (HQ.out (.slice sa m sc) (.slice na nl nc) (.string ⟨nm.toArray⟩) (.int .u64 x1) (.int .i64 x1) (.int .u64 y1) (.int .i64 y1) (.slice (some ⟨pg,po,none⟩) ul xc) (.int .i64 k3) (.pointer (some ⟨pg,po+k3,none⟩)) (.int .u8 cb) (.bool pd) (.agg #[.string ⟨nm.toArray⟩,.int .i64 x1,.int .i64 y1,.bool pd]) (.slice (some ⟨w6.heap.size,0,none⟩) 1 1) (.slice ta (m+1) tc) (.slice ta (m+1) tc) ta tc w5 rfl q5 hO hF)
end Go.Proofs.YtkbenkldfehhlaaGreatDoor.dListed
