/-
  Texts merged by a program of this claim's: ReadE, ResD, ToldA, RecA.
-/
import Derived.Test.YtkbenkldfehhlaaGreatDoorM26
import Derived.Test.YtkbenkldfehhlaaGreatDoorM11
import Derived.Test.YtkbenkldfehhlaaGreatDoorM20
import Derived.Test.YtkbenkldfehhlaaGreatDoorM19
import Derived.Test.YtkbenkldfehhlaaGreatDoorM24
import Derived.Test.YtkbenkldfehhlaaGreatDoorM6
import Derived.Deep.DeepCutAuto
import Derived.Test.YtkbenkldfehhlaaGreatDoorM9
import Derived.Test.YtkbenkldfehhlaaGreatDoorM25
namespace Go.Proofs.YtkbenkldfehhlaaGreatDoor
open Go Go.RowKit Go.Sort
set_option maxRecDepth 100000
set_option maxHeartbeats 1600000
theorem pcV_cells {w:World}{p:Nat}{q:Pc}{t:TypeId}(hb:w.heap[p]? = some (.cells (pcV q).toArray t (0,0))) :
  w.cell? ⟨p,0,none⟩=some (.string ⟨q.name.toArray⟩)∧w.cell? ⟨p,1,none⟩=some (.int .i64 q.first)∧w.cell? ⟨p,2,none⟩=some (.int .i64 q.count)∧w.cell? ⟨p,3,none⟩=some (.bool q.dense)∧∀i,w.frozen? ⟨p,i,none⟩=false:=by
 simp[World.cell?,World.frozen?,hb,pcV]
theorem heap_setP {w1:World}{p:Nat}{a0 b0 c0 d0:Value}{t:TypeId}(h:w1.heap[p]? = some (.cells #[a0,b0,c0,d0] t (0,0))) (a b c d:Value) :
  ((((w1.setCell ⟨p,0,none⟩ a).setCell ⟨p,1,none⟩ b).setCell ⟨p,2,none⟩ c).setCell ⟨p,3,none⟩ d).heap[p]? = some (.cells #[a,b,c,d] t (0,0)):=
 heap_setCell_at (heap_setCell_at (heap_setCell_at (heap_setCell_at h 0 a) 1 b) 2 c) 3 d
theorem only_setP (w1:World) (p:Nat) (a b c d:Value):Only (fun k=>k=p) w1 ((((w1.setCell ⟨p,0,none⟩ a).setCell ⟨p,1,none⟩ b).setCell ⟨p,2,none⟩ c).setCell ⟨p,3,none⟩ d):=by
 refine Only.setCell (S:=fun k=>k=p) (p:=⟨p,3,none⟩) ?_ (fun _=>rfl) d
 refine Only.setCell (S:=fun k=>k=p) (p:=⟨p,2,none⟩) ?_ (fun _=>rfl) c
 refine Only.setCell (S:=fun k=>k=p) (p:=⟨p,1,none⟩) ?_ (fun _=>rfl) b
 exact Only.setCell (S:=fun k=>k=p) (p:=⟨p,0,none⟩) (Only.refl w1) (fun _=>rfl) a
theorem setP_zero {w w1:World}(hb:w1.heap[w.heap.size]? = some (.cells #[.string ⟨#[]⟩,.int .i64 0,.int .i64 0,.bool false] 98 (0,0))) (hn:Nw w w1) (q:Pc){W:World}
  (hW:W=((((w1.setCell ⟨w.heap.size,0,none⟩ (.string ⟨q.name.toArray⟩)).setCell ⟨w.heap.size,1,none⟩ (.int .i64 q.first)).setCell ⟨w.heap.size,2,none⟩ (.int .i64 q.count)).setCell ⟨w.heap.size,3,none⟩ (.bool q.dense))) :
  Nw w W∧W.cell? ⟨w.heap.size,0,none⟩=some (.string ⟨q.name.toArray⟩)∧W.cell? ⟨w.heap.size,1,none⟩=some (.int .i64 q.first)∧W.cell? ⟨w.heap.size,2,none⟩=some (.int .i64 q.count)∧W.cell? ⟨w.heap.size,3,none⟩=some (.bool q.dense):=by
 have h1:=heap_setP hb (.string ⟨q.name.toArray⟩) (.int .i64 q.first) (.int .i64 q.count) (.bool q.dense)
 have h2:=only_setP w1 w.heap.size (.string ⟨q.name.toArray⟩) (.int .i64 q.first) (.int .i64 q.count) (.bool q.dense)
 rw[←hW]at h1 h2
 obtain⟨a,b,c,d,-⟩:=pcV_cells (q:=q) h1
 exact⟨hn.trans' h2 (fun k hk hc=>by omega),a,b,c,d⟩
def pcR (r:Option (Pc×Int)):Value:=match r with
 |none=>.tuple #[.agg (pcV Pc.zero).toArray,.int .i64 0,.bool false]
 |some (p,x)=>.tuple #[.agg (pcV p).toArray,.int .i64 x,.bool true]
theorem piece_ok {w:World}{v:Value}{l:List UInt8}(hv:Bs w v l) (hl:l.length≤90000000) (at_:Int) (ha:in64 at_){r:Option (Pc×Int)}(hr:pieceR l at_=r) :
  Calls Tryz.prog 141 #[v,.int .i64 at_] w fun z w'=>z=.returned (pcR r)∧Nw w w':=by
 obtain⟨a,cap,rfl,h1,h2,hel⟩:=hv.elems
 have HE:=zH hel
 have HV:=zH hv
 have hzb:=heap_alloc_new w (.cells (pcV Pc.zero).toArray 98 (0,0))
 have hn0:=(Nw.refl w).alloc (.cells (pcV Pc.zero).toArray 98 (0,0))
 obtain⟨⟨nm,x1,e1⟩,hb⟩:=zN (getB l at_ 40)
 have HB:=zH (GetBlob_ok (hv.nw hn0) (by omega) at_ 40 ha ⟨by omega,by omega⟩ hb)
 have hbf:e1=0→0≤x1∧x1≤l.length:=fun h0=>by
  unfold getB at hb
  split at hb
  ·rename_i hx;cases hb;exact absurd h0 hx
  ·rename_i h1
   have:=getU_fine (b:=l) (at_:=at_) (by rcases Decidable.em ((getU l at_).2.2=0) with h|h;exact h;exact absurd h h1)
   split at hb
   ·cases hb;cases h0
   ·split at hb
    ·cases hb;cases h0
    ·cases hb;omega
 unfold pieceR at hr
 rw[hb]at hr
 simp only at hr
 have HZB:=zH hzb
 have N0:=zH hn0
 obtain⟨z0,z1,z2,z3,zf⟩:=pcV_cells (q:=Pc.zero) hzb
 have zf0:=zf 0
 have zf1:=zf 1
 have zf2:=zf 2
 have zf3:=zf 3
 clear hv h1 h2 hel hb hzb hn0 zf
 unfold pcV Pc.zero at HB N0 HZB z0 z1 z2 z3 zf0 zf1 zf2 zf3
 by_cases c1:e1=0
 case neg =>
  have q1:(e1 !=0)=true:=by simpa using c1
  rw[if_pos c1]at hr
  subst hr
  go_enter Tryz.func141,Tryz.ntmps141
  go_wp2_with fail
  refine HB.out.mono ?_
  rintro z w1 ⟨v1,rfl,VB,n1⟩
  have B1:=zH (n1.at_ HZB.out)
  obtain⟨y0,y1,y2,y3,yf⟩:=pcV_cells (q:=⟨[],0,0,false⟩) B1.out
  have yf0:=yf 0
  have yf1:=yf 1
  have yf2:=yf 2
  have yf3:=yf 3
  have hyl:=lt_of_block B1.out
  have N1:=zH (N0.out.trans n1)
  clear n1 yf z0 z1 z2 z3 zf0 zf1 zf2 zf3
  clear VB
  go_wp2
  obtain⟨N9,r0,r1,r2,r3⟩:=setP_zero B1.out N1.out ⟨[],0,0,false⟩ rfl
  refine bodyPost_ret (v:=.tuple #[.agg #[.string ⟨#[]⟩,.int .i64 0,.int .i64 0,.bool false],.int .i64 0,.bool false]) (by simp[results,Tryz.results141,go_sem,r0,r1,r2,r3]) rfl ⟨rfl,N9⟩
 subst c1
 obtain⟨g0,g1⟩:=hbf rfl
 rw[if_neg (by simp)]at hr
 obtain⟨⟨f1,x2,e2⟩,hu⟩:=zN (getU l x1)
 have hf2:=getU_fine (b:=l) (at_:=x1)
 rw[hu]at hr hf2
 simp only at hr hf2
 clear hbf
 by_cases c2:e2=0
 case neg =>
  have q1:(e2 !=0)=true:=by simpa using c2
  rw[if_pos (.inl c2)]at hr
  subst hr
  go_enter Tryz.func141,Tryz.ntmps141
  go_wp2_with fail
  refine HB.out.mono ?_
  rintro z w1 ⟨v1,rfl,VB,n1⟩
  have B1:=zH (n1.at_ HZB.out)
  obtain⟨y0,y1,y2,y3,yf⟩:=pcV_cells (q:=⟨[],0,0,false⟩) B1.out
  have yf0:=yf 0
  have yf1:=yf 1
  have yf2:=yf 2
  have yf3:=yf 3
  have hyl:=lt_of_block B1.out
  have N1:=zH (N0.out.trans n1)
  clear n1 yf z0 z1 z2 z3 zf0 zf1 zf2 zf3
  have HU1:=zH (GetUint_ok (HV.out.nw N1.out) x1 ⟨by omega,by omega⟩ hu)
  go_wp2_with fail
  refine HU1.out.mono ?_
  rintro z w' ⟨rfl,rfl⟩
  clear VB HU1
  go_wp2
  obtain⟨N9,r0,r1,r2,r3⟩:=setP_zero B1.out N1.out ⟨[],0,0,false⟩ rfl
  refine bodyPost_ret (v:=.tuple #[.agg #[.string ⟨#[]⟩,.int .i64 0,.int .i64 0,.bool false],.int .i64 0,.bool false]) (by simp[results,Tryz.results141,go_sem,r0,r1,r2,r3]) rfl ⟨rfl,N9⟩
 subst c2
 obtain⟨-,g2,g3,g4⟩:=hf2 rfl
 clear hf2
 by_cases c3:4611686018427387904<f1
 ·have q1:decide ((4611686018427387904:Int)<(f1:Int))=true:=by simp;omega
  rw[if_pos (.inr c3)]at hr
  subst hr
  go_enter Tryz.func141,Tryz.ntmps141
  go_wp2_with fail
  refine HB.out.mono ?_
  rintro z w1 ⟨v1,rfl,VB,n1⟩
  have B1:=zH (n1.at_ HZB.out)
  obtain⟨y0,y1,y2,y3,yf⟩:=pcV_cells (q:=⟨[],0,0,false⟩) B1.out
  have yf0:=yf 0
  have yf1:=yf 1
  have yf2:=yf 2
  have yf3:=yf 3
  have hyl:=lt_of_block B1.out
  have N1:=zH (N0.out.trans n1)
  clear n1 yf z0 z1 z2 z3 zf0 zf1 zf2 zf3
  have HU1:=zH (GetUint_ok (HV.out.nw N1.out) x1 ⟨by omega,by omega⟩ hu)
  go_wp2_with fail
  refine HU1.out.mono ?_
  rintro z w' ⟨rfl,rfl⟩
  clear VB HU1
  go_wp2
  obtain⟨N9,r0,r1,r2,r3⟩:=setP_zero B1.out N1.out ⟨[],0,0,false⟩ rfl
  refine bodyPost_ret (v:=.tuple #[.agg #[.string ⟨#[]⟩,.int .i64 0,.int .i64 0,.bool false],.int .i64 0,.bool false]) (by simp[results,Tryz.results141,go_sem,r0,r1,r2,r3]) rfl ⟨rfl,N9⟩
 have q1:decide ((4611686018427387904:Int)<(f1:Int))=false:=by simp;omega
 rw[if_neg (by rintro (h|h);exact h rfl;exact c3 h)]at hr
 obtain⟨k2,rfl⟩:∃k:Nat,x2=k:=⟨x2.toNat,by omega⟩
 obtain⟨⟨n1,x3,e3⟩,hu2⟩:=zN (getU l k2)
 have hf3:=getU_fine (b:=l) (at_:=k2)
 rw[hu2]at hr hf3
 simp only at hr hf3
 by_cases c4:e3=0
 case neg =>
  have q2:(e3 !=0)=true:=by simpa using c4
  rw[if_pos (.inl c4)]at hr
  subst hr
  go_enter Tryz.func141,Tryz.ntmps141
  go_wp2_with fail
  refine HB.out.mono ?_
  rintro z w1 ⟨v1,rfl,VB,n1⟩
  have B1:=zH (n1.at_ HZB.out)
  obtain⟨y0,y1,y2,y3,yf⟩:=pcV_cells (q:=⟨[],0,0,false⟩) B1.out
  have yf0:=yf 0
  have yf1:=yf 1
  have yf2:=yf 2
  have yf3:=yf 3
  have hyl:=lt_of_block B1.out
  have N1:=zH (N0.out.trans n1)
  clear n1 yf z0 z1 z2 z3 zf0 zf1 zf2 zf3
  have HU1:=zH (GetUint_ok (HV.out.nw N1.out) x1 ⟨by omega,by omega⟩ hu)
  go_wp2_with fail
  refine HU1.out.mono ?_
  rintro z w' ⟨rfl,rfl⟩
  have HU2:=zH (GetUint_ok (HV.out.nw N1.out) k2 ⟨by omega,by omega⟩ hu2)
  go_wp2_with fail
  refine HU2.out.mono ?_
  rintro z w' ⟨rfl,rfl⟩
  clear VB HU1 HU2
  go_wp2
  obtain⟨N9,r0,r1,r2,r3⟩:=setP_zero B1.out N1.out ⟨[],0,0,false⟩ rfl
  refine bodyPost_ret (v:=.tuple #[.agg #[.string ⟨#[]⟩,.int .i64 0,.int .i64 0,.bool false],.int .i64 0,.bool false]) (by simp[results,Tryz.results141,go_sem,r0,r1,r2,r3]) rfl ⟨rfl,N9⟩
 subst c4
 obtain⟨-,g5,g6,g7⟩:=hf3 rfl
 clear hf3
 obtain⟨k3,rfl⟩:∃k:Nat,x3=k:=⟨x3.toNat,by omega⟩
 by_cases c5:4611686018427387904<n1
 ·have q2:decide ((4611686018427387904:Int)<(n1:Int))=true:=by simp;omega
  rw[if_pos (.inr (.inl c5))]at hr
  subst hr
  go_enter Tryz.func141,Tryz.ntmps141
  go_wp2_with fail
  refine HB.out.mono ?_
  rintro z w1 ⟨v1,rfl,VB,n1⟩
  have B1:=zH (n1.at_ HZB.out)
  obtain⟨y0,y1,y2,y3,yf⟩:=pcV_cells (q:=⟨[],0,0,false⟩) B1.out
  have yf0:=yf 0
  have yf1:=yf 1
  have yf2:=yf 2
  have yf3:=yf 3
  have hyl:=lt_of_block B1.out
  have N1:=zH (N0.out.trans n1)
  clear n1 yf z0 z1 z2 z3 zf0 zf1 zf2 zf3
  have HU1:=zH (GetUint_ok (HV.out.nw N1.out) x1 ⟨by omega,by omega⟩ hu)
  go_wp2_with fail
  refine HU1.out.mono ?_
  rintro z w' ⟨rfl,rfl⟩
  have HU2:=zH (GetUint_ok (HV.out.nw N1.out) k2 ⟨by omega,by omega⟩ hu2)
  go_wp2_with fail
  refine HU2.out.mono ?_
  rintro z w' ⟨rfl,rfl⟩
  clear VB HU1 HU2
  go_wp2
  obtain⟨N9,r0,r1,r2,r3⟩:=setP_zero B1.out N1.out ⟨[],0,0,false⟩ rfl
  refine bodyPost_ret (v:=.tuple #[.agg #[.string ⟨#[]⟩,.int .i64 0,.int .i64 0,.bool false],.int .i64 0,.bool false]) (by simp[results,Tryz.results141,go_sem,r0,r1,r2,r3]) rfl ⟨rfl,N9⟩
 have q2:decide ((4611686018427387904:Int)<(n1:Int))=false:=by simp;omega
 by_cases c6:k3=l.length
 ·have q3:((k3:Int)==(l.length:Int))=true:=by simp;omega
  rw[if_pos (.inr (.inr (.inl (by omega))))]at hr
  subst hr
  go_enter Tryz.func141,Tryz.ntmps141
  go_wp2_with fail
  refine HB.out.mono ?_
  rintro z w1 ⟨v1,rfl,VB,n1⟩
  have B1:=zH (n1.at_ HZB.out)
  obtain⟨y0,y1,y2,y3,yf⟩:=pcV_cells (q:=⟨[],0,0,false⟩) B1.out
  have yf0:=yf 0
  have yf1:=yf 1
  have yf2:=yf 2
  have yf3:=yf 3
  have hyl:=lt_of_block B1.out
  have N1:=zH (N0.out.trans n1)
  clear n1 yf z0 z1 z2 z3 zf0 zf1 zf2 zf3
  have HU1:=zH (GetUint_ok (HV.out.nw N1.out) x1 ⟨by omega,by omega⟩ hu)
  go_wp2_with fail
  refine HU1.out.mono ?_
  rintro z w' ⟨rfl,rfl⟩
  have HU2:=zH (GetUint_ok (HV.out.nw N1.out) k2 ⟨by omega,by omega⟩ hu2)
  go_wp2_with fail
  refine HU2.out.mono ?_
  rintro z w' ⟨rfl,rfl⟩
  clear VB HU1 HU2
  go_wp2
  obtain⟨N9,r0,r1,r2,r3⟩:=setP_zero B1.out N1.out ⟨[],0,0,false⟩ rfl
  refine bodyPost_ret (v:=.tuple #[.agg #[.string ⟨#[]⟩,.int .i64 0,.int .i64 0,.bool false],.int .i64 0,.bool false]) (by simp[results,Tryz.results141,go_sem,r0,r1,r2,r3]) rfl ⟨rfl,N9⟩
 have q3:((k3:Int)==(l.length:Int))=false:=by simp;omega
 have hk3:k3<l.length:=by omega
 obtain⟨pg,po,rfl,hpg,hcell⟩:=HE.out k3 hk3
 have hcell:w.cell? ⟨pg,po+k3,none⟩=some (.int .u8 (l[k3].toNat:Int)):=hcell
 have hget:l.getD (k3:Int).toNat 0=l[k3]:=by simp[List.getD,hk3]
 rw[hget]at hr
 have hdd:decide ((l[k3]:UInt8)=1)=((l[k3].toNat:Int)==1):=by
  rw[Bool.eq_iff_iff,decide_eq_true_iff,beq_iff_eq]
  constructor
  ·intro h;rw[h];rfl
  ·intro h;exact UInt8.toNat_inj.1 (by show _=1;omega)
 rw[hdd]at hr
 clear hget hdd
 generalize (l[k3]:UInt8).toNat=d0 at *
 by_cases c7:1<d0
 ·have q4:decide ((1:Int)<(d0:Int))=true:=by simp;omega
  rw[if_pos (.inr (.inr (.inr c7)))]at hr
  subst hr
  go_enter Tryz.func141,Tryz.ntmps141
  go_wp2_with fail
  refine HB.out.mono ?_
  rintro z w1 ⟨v1,rfl,VB,n1⟩
  have B1:=zH (n1.at_ HZB.out)
  obtain⟨y0,y1,y2,y3,yf⟩:=pcV_cells (q:=⟨[],0,0,false⟩) B1.out
  have yf0:=yf 0
  have yf1:=yf 1
  have yf2:=yf 2
  have yf3:=yf 3
  have hyl:=lt_of_block B1.out
  have N1:=zH (N0.out.trans n1)
  have hcell1:=N1.out.cell hcell
  have hpg1:=Nat.lt_of_lt_of_le hpg N1.out.size
  clear hcell hpg
  clear n1 yf z0 z1 z2 z3 zf0 zf1 zf2 zf3
  have HU1:=zH (GetUint_ok (HV.out.nw N1.out) x1 ⟨by omega,by omega⟩ hu)
  go_wp2_with fail
  refine HU1.out.mono ?_
  rintro z w' ⟨rfl,rfl⟩
  have HU2:=zH (GetUint_ok (HV.out.nw N1.out) k2 ⟨by omega,by omega⟩ hu2)
  go_wp2_with fail
  refine HU2.out.mono ?_
  rintro z w' ⟨rfl,rfl⟩
  clear VB HU1 HU2
  go_wp2
  obtain⟨N9,r0,r1,r2,r3⟩:=setP_zero B1.out N1.out ⟨[],0,0,false⟩ rfl
  refine bodyPost_ret (v:=.tuple #[.agg #[.string ⟨#[]⟩,.int .i64 0,.int .i64 0,.bool false],.int .i64 0,.bool false]) (by simp[results,Tryz.results141,go_sem,r0,r1,r2,r3]) rfl ⟨rfl,N9⟩
 have q4:decide ((1:Int)<(d0:Int))=false:=by simp;omega
 rw[if_neg (by rintro (h|h|h|h);exact h rfl;exact c5 h;exact c6 (by omega);exact c7 h)]at hr
 subst hr
 obtain⟨pd,hpd⟩:∃x:Bool,((d0:Int)==1)=x:=⟨_,rfl⟩
 rw[hpd]
 go_enter Tryz.func141,Tryz.ntmps141
 go_wp2_with fail
 refine HB.out.mono ?_
 rintro z w1 ⟨v1,rfl,VB,n1⟩
 have B1:=zH (n1.at_ HZB.out)
 obtain⟨xa,xc,rfl,-⟩:=VB.len
 have N1:=zH (N0.out.trans n1)
 have hcell1:=N1.out.cell hcell
 have hpg1:=Nat.lt_of_lt_of_le hpg N1.out.size
 have VB1:=zH VB
 clear n1 z0 z1 z2 z3 zf0 zf1 zf2 zf3 hcell hpg VB
 have HU1:=zH (GetUint_ok (HV.out.nw N1.out) x1 ⟨by omega,by omega⟩ hu)
 go_wp2_with fail
 refine HU1.out.mono ?_
 rintro z w' ⟨rfl,rfl⟩
 have HU2:=zH (GetUint_ok (HV.out.nw N1.out) k2 ⟨by omega,by omega⟩ hu2)
 go_wp2_with fail
 refine HU2.out.mono ?_
 rintro z w' ⟨rfl,rfl⟩
 go_upto_region 10 with fail
 have kc:=conv_str (VB1.out.nw ((Nw.refl w1).drew))
 have kc':=conv_str VB1.out
 have hw1:IntKind.i64.wrap (f1:Int)=(f1:Int):=IntWalk.i64_in _ (by omega)
 have hw2:IntKind.i64.wrap (n1:Int)=(n1:Int):=IntWalk.i64_in _ (by omega)
 have hw3:IntKind.i64.wrap ((k3:Int)+1)=(k3:Int)+1:=IntWalk.i64_in _ (by omega)
 clear HU1 HU2
 obtain⟨y0,y1,y2,y3,yf⟩:=pcV_cells (q:=⟨[],0,0,false⟩) B1.out
 have yf0:=yf 0
 have yf1:=yf 1
 have yf2:=yf 2
 have yf3:=yf 3
 have hyl:=lt_of_block B1.out
 clear yf
 go_region
 obtain⟨N8,r0,r1,r2,r3⟩:=setP_zero B1.out N1.out ⟨nm,f1,n1,pd⟩ rfl
 have N8:=zH N8.drew
 go_wp2
 refine bodyPost_ret (v:=.tuple #[.agg #[.string ⟨nm.toArray⟩,.int .i64 f1,.int .i64 n1,.bool pd],.int .i64 ((k3:Int)+1),.bool true]) (by simp[results,Tryz.results141,go_sem,r0,r1,r2,r3]) rfl ⟨rfl,N8.out⟩
theorem pieceR_fine {b:List UInt8}{at_:Int}{p:Pc}{x:Int}(h:pieceR b at_=some (p,x)):0≤at_∧at_<x∧x≤b.length∧p.Ok:=by
 unfold pieceR at h
 split at h
 ·cases h
 rename_i h1
 split at h
 ·cases h
 rename_i h2
 split at h
 ·cases h
 rename_i h3
 simp only[not_or,Option.some.injEq,Prod.mk.injEq]at h h2 h3
 obtain⟨rfl,rfl⟩:=h
 have h1:(getB b at_ 40).2.2=0:=by rcases Decidable.em ((getB b at_ 40).2.2=0) with h|h;exact h;exact absurd h h1
 have hg:(getU b at_).2.2=0∧(getB b at_ 40).1.length≤40∧(getB b at_ 40).2.1=(getU b at_).2.1+(getU b at_).1:=by
  unfold getB at h1 ⊢
  split
  ·rename_i hx;rw[if_pos hx]at h1;exact absurd h1 hx
  rename_i hx
  rw[if_neg hx]at h1
  split
  ·rename_i hy;rw[if_pos hy]at h1;exact absurd h1 (by simp)
  rename_i hy
  rw[if_neg hy]at h1
  split
  ·rename_i hz;rw[if_pos hz]at h1;exact absurd h1 (by simp)
  ·refine⟨by rcases Decidable.em ((getU b at_).2.2=0) with h|h;exact h;exact absurd h hx,?_,rfl⟩
   simp only[List.length_take]
   omega
 have u1:=getU_fine hg.1
 have u2:=getU_fine (b:=b) (at_:=(getB b at_ 40).2.1) (by rcases Decidable.em ((getU b (getB b at_ 40).2.1).2.2=0) with h|h;exact h;exact absurd h h2.1)
 have u3:=getU_fine (b:=b) (at_:=(getU b (getB b at_ 40).2.1).2.1) (by rcases Decidable.em ((getU b (getU b (getB b at_ 40).2.1).2.1).2.2=0) with h|h;exact h;exact absurd h h3.1)
 have hg2:=hg.2.1
 have hg3:=hg.2.2
 refine⟨u1.1,by omega,by have:=h3.2.2.1;omega,⟨by simp only;omega,?_,?_⟩⟩
 ·have:=h2.2
  exact⟨by simp only;omega,by simp only;omega⟩
 ·have:=h3.2.1
  exact⟨by simp only;omega,by simp only;omega⟩
def OwnP (w w':World) (v:Value) (l:List Pc):Prop:=Vec 4 w' v l.length (l.flatMap pcV)∧(∀q∈l,q.Ok)∧Nw w w'∧∀g,v.ownBlock=some g→w.heap.size≤g
theorem OwnP.pcs {w w':World}{v:Value}{l:List Pc}(h:OwnP w w' v l):Pcs w' v l:=⟨h.1.src,h.2.1⟩
theorem OwnP.nil {w w':World}(h:Nw w w'):OwnP w w' (.slice none 0 0) []:=⟨Vec.nil,(fun q hq=>by cases hq),h,fun g hg=>by cases hg⟩
theorem OwnP.nw {w w' w'':World}{v:Value}{l:List Pc}(h:OwnP w w' v l) (hw:Nw w' w''):OwnP w w'' v l:=⟨h.1.nw hw,h.2.1,h.2.2.1.trans hw,h.2.2.2⟩
theorem OwnP.from {w W w':World}{v:Value}{l:List Pc}(hw:Nw w W) (h:OwnP W w' v l):OwnP w w' v l:=⟨h.1,h.2.1,hw.trans h.2.2.1,fun g hg=>Nat.le_trans hw.size (h.2.2.2 g hg)⟩
theorem pcsFrom_none {u:List UInt8}{at_:Int}(h:pieceR u at_=none) (m:Nat) (acc:List Pc):pcsFrom u (m+1) at_ acc=none:=by
 unfold pcsFrom
 rw[h]
theorem pcsFrom_some {u:List UInt8}{at_ x:Int}{p:Pc}(h:pieceR u at_=some (p,x)) (m:Nat) (acc:List Pc):pcsFrom u (m+1) at_ acc=pcsFrom u m x (acc++[p]):=by
 conv=>lhs;unfold pcsFrom
 rw[h]
theorem Listed_ok {w:World}{v:Value}{l:List UInt8}(hv:Bs w v l) (hl:l.length≤90000000){r:List Pc}{e:Int}(hr:listedB l=(r,e)) :
  Calls Tryz.prog 93 #[v] w fun z w'=>∃v',z=.returned (.tuple #[v',.int .i64 e])∧OwnP w w' v' r:=by
 obtain⟨a,cap,rfl,h1,h2,hel⟩:=hv.elems
 obtain⟨⟨u,e1⟩,hun⟩:=zN (unsealB l)
 have HUN:=zH (Unseal_ok hv hl hun)
 have hul:=unsealB_len (b:=l)
 unfold listedB at hr
 rw[hun]at hr hul
 simp only at hr hul
 clear hv h1 h2 hel hun
 by_cases c1:e1=0
 case neg =>
  have q1:(e1 !=0)=true:=by simpa using c1
  rw[if_pos c1]at hr
  obtain⟨rfl,rfl⟩:[]=r∧e1=e:=by simpa using hr
  clear hul hr
  go_enter Tryz.func93,Tryz.ntmps93
  go_wp2_with fail
  refine HUN.out.mono ?_
  rintro z w1 ⟨v1,rfl,-,n1⟩
  have N1:=zH n1
  clear n1
  go_wp2
  refine bodyPost_ret (v:=.tuple #[.slice none 0 0,.int .i64 e1]) (by simp[results,Tryz.results93,go_sem]) rfl ⟨_,rfl,OwnP.nil N1.out⟩
 subst c1
 have hul:=hul rfl
 rw[if_neg (by simp)]at hr
 unfold listedIn at hr
 by_cases c2:magicS <+: u
 case neg =>
  rw[if_pos c2]at hr
  obtain⟨rfl,rfl⟩:[]=r∧10=e:=by simpa using hr
  have q0:decide (magicS <+: u)=false:=by simpa using c2
  clear hul hr
  go_enter Tryz.func93,Tryz.ntmps93
  go_wp2_with fail
  refine HUN.out.mono ?_
  rintro z w1 ⟨v1,rfl,b1,n1⟩
  have N1:=zH n1
  have kc:=conv_str b1
  obtain⟨xa,xc,rfl,-⟩:=b1.len
  have HP:=HP_ok u magicS w1
  rw[q0]at HP
  have HP:=zH HP
  clear n1 b1
  go_wp2_with fail
  refine HP.out.mono ?_
  rintro z w2 ⟨rfl,rfl⟩
  go_wp2
  refine bodyPost_ret (v:=.tuple #[.slice none 0 0,.int .i64 10]) (by simp[results,Tryz.results93,go_sem]) rfl ⟨_,rfl,OwnP.nil N1.out⟩
 rw[if_neg (by simpa using c2)]at hr
 have q0:decide (magicS <+: u)=true:=by simpa using c2
 obtain⟨⟨n0,x0,e0⟩,hu⟩:=zN (getU u 4)
 have hf:=getU_fine (b:=u) (at_:=4)
 rw[hu]at hr hf
 simp only at hr hf
 have HGU:=zH (fun (W:World) (v:Value) (hb:Bs W v u)=>GetUint_ok hb 4 ⟨by omega,by omega⟩ hu)
 clear hu
 by_cases c3:e0=0
 case neg =>
  have q1:(e0 !=0)=true:=by simpa using c3
  rw[if_pos c3]at hr
  obtain⟨rfl,rfl⟩:[]=r∧10=e:=by simpa using hr
  clear hul hr hf
  go_enter Tryz.func93,Tryz.ntmps93
  go_wp2_with fail
  refine HUN.out.mono ?_
  rintro z w1 ⟨v1,rfl,b1,n1⟩
  have N1:=zH n1
  have kc:=conv_str b1
  obtain⟨xa,xc,rfl,-⟩:=b1.len
  have HP:=HP_ok u magicS w1
  rw[q0]at HP
  have HP:=zH HP
  have B1:=zH b1
  clear n1 b1
  go_wp2_with fail
  refine HP.out.mono ?_
  rintro z w2 ⟨rfl,rfl⟩
  go_wp2_with fail
  refine (HGU.out _ _ B1.out).mono ?_
  rintro z w2 ⟨rfl,rfl⟩
  go_wp2
  refine bodyPost_ret (v:=.tuple #[.slice none 0 0,.int .i64 10]) (by simp[results,Tryz.results93,go_sem]) rfl ⟨_,rfl,OwnP.nil N1.out⟩
 subst c3
 obtain⟨-,f1,f2,f3⟩:=hf rfl
 rw[if_neg (by simp)]at hr
 obtain⟨E,hE⟩:=zN (pcsFrom u n0 x0 [])
 rw[hE]at hr
 have HE:=zH hE
 have HR:=zH hr
 obtain⟨i0,hi,hz0,hz1,hz2⟩:=info_parts infoPc
 have HI:=zH hi
 have HZ0:=zH hz0
 have HZ1:=zH hz1
 have HZ2:=zH hz2
 clear hi hz0 hz1 hz2 hr hE hf
 go_enter Tryz.func93,Tryz.ntmps93
 go_wp2_with fail
 refine HUN.out.mono ?_
 rintro z w1 ⟨v1,rfl,b1,n1⟩
 have N1:=zH n1
 have kc:=conv_str b1
 obtain⟨xa,xc,rfl,-⟩:=b1.len
 have HP:=HP_ok u magicS w1
 rw[q0]at HP
 have HP:=zH HP
 have B1:=zH b1
 clear n1 b1
 go_wp2_with fail
 refine HP.out.mono ?_
 rintro z w2 ⟨rfl,rfl⟩
 go_wp2_with fail
 refine (HGU.out _ _ B1.out).mono ?_
 rintro z w2 ⟨rfl,rfl⟩
 go_wp2
 go_loopw [6,7,8] (fun nv av s wr=>∃(m cnt:Nat) (at_:Int) (acc:List Pc),nv=.int .u64 m∧m≤n0∧av=.int .i64 at_∧0≤at_∧at_≤u.length∧pcsFrom u m at_ acc=E∧Vec 4 wr s cnt (acc.flatMap pcV)∧acc.length=cnt∧(cnt:Int)≤at_∧(∀q∈acc,q.Ok)∧Nw w wr∧Nw w1 wr∧∀g,s.ownBlock=some g→w1.heap.size≤g) (fun nv _ _ _=>(intOf nv).toNat)
 case atStart=>exact⟨n0,0,x0,[],rfl,Nat.le_refl _,rfl,by omega,f2,HE.out,Vec.nil,rfl,by omega,(fun q hq=>by cases hq),N1.out,Nw.refl _,fun g hg=>by cases hg⟩
 case round =>
  obtain⟨m,cnt,at_,acc,rfl,hm,rfl,ha0,ha1,hE1,hs,hcnt,hcl,hok,hw,hw1,hfr⟩:=hrel
  obtain⟨sa,sc,rfl,-⟩:=hs.len
  have HS:=zH (And.intro hs (And.intro hw hfr))
  have HE1:=zH hE1
  have HC:=zH hcnt
  have HOK:=zH hok
  have HW1:=zH hw1
  clear hs hw hfr hE1 hcnt hok hw1 kc HP
  by_cases hm0:0<m
  ·have q5:decide ((0:Int)<(m:Int))=true:=by simp;omega
   obtain⟨m',rfl⟩:∃m',m=m'+1:=⟨m-1,by omega⟩
   have hsub:((m'+1:Nat):Int)-1=(m':Int):=by omega
   cases hy:pieceR u at_ with
   |none =>
    have C:=zH (piece_ok (B1.out.nw HW1.out) (by omega) at_ ⟨by omega,by omega⟩ hy)
    have rr:=HE1.out
    rw[pcsFrom_none hy]at rr
    have r2:=HR.out
    rw[←rr]at r2
    obtain⟨rfl,rfl⟩:[]=r∧10=e:=by simpa using r2
    clear rr r2 hy
    unfold pcR pcV Pc.zero at C
    go_wp2_with fail
    refine C.out.mono ?_
    rintro z w3 ⟨rfl,n3⟩
    have N3:=zH ((HS.out.2.1.trans n3).alloc (.cells #[.string ⟨#[]⟩,.int .i64 0,.int .i64 0,.bool false] 98))
    clear n3 C
    go_wp2
    refine bodyPost_ret (v:=.tuple #[.slice none 0 0,.int .i64 10]) (by simp[results,Tryz.results93,go_sem]) rfl ⟨_,rfl,OwnP.nil N3.out⟩
   |some y =>
    obtain⟨p,x⟩:=y
    have C:=zH (piece_ok (B1.out.nw HW1.out) (by omega) at_ ⟨by omega,by omega⟩ hy)
    have rr:=HE1.out
    rw[pcsFrom_some hy]at rr
    have HE2:=zH rr
    obtain⟨g1,g2,g3,g4⟩:=pieceR_fine hy
    have HPK:=zH g4
    clear rr hy HE1 g4
    unfold pcR pcV at C
    go_wp2_with fail
    refine C.out.mono ?_
    rintro z w3 ⟨rfl,n3⟩
    have hna:=(Nw.refl w3).alloc (.cells (pcV p).toArray 98)
    have hnb:=hna.alloc (.cells (pcV p).toArray 98)
    have V4:=zH ((HS.out.1.nw n3).nw hnb)
    have X4:=zH (src_lit (w3.alloc (.cells (pcV p).toArray 98)) 98 (0,0) 4 1 1 (pcV p) rfl (by omega) (by decide))
    have N3:=zH n3
    have HNB:=zH hnb
    have hs3:(w3.alloc (.cells (pcV p).toArray 98)).heap.size=w3.heap.size+1:=by simp
    rw[hs3]at X4
    unfold pcV at V4 X4
    clear n3 C hna hnb hs3
    go_wp2_with (at_builtin;refine wpList_append_vec rfl _ _ 32 rfl 98 i0 (.agg #[.string ⟨#[]⟩,.int .i64 0,.int .i64 0,.bool false]) 4 40 Tryz.underlying32 HI.out HZ0.out HZ1.out HZ2.out rfl (by decide) rfl rfl V4.out X4.out ?c1 ?c2 ?c3 ?_)
    case c1=>exact fun u hu=>by simp only[List.mem_cons,List.not_mem_nil,or_false]at hu;rcases hu with rfl|rfl|rfl|rfl <;> rfl
    case c2=>unfold maxLen;omega
    case c3=>omega
    intro v5 w5 q5 q6 q7
    obtain⟨ta,tc,rfl,-⟩:=q5.len
    have Q:=zH (And.intro q5 (And.intro q6 q7))
    clear q5 q6 q7
    go_wp2
    go_roundw
    case rel =>
     have h0:=N1.out.size
     have hnw:Nw w w5:=((HS.out.2.1.trans N3.out).trans HNB.out).trans' Q.out.2.1 (fun g hg hc=>by have:=HS.out.2.2 g hc;omega)
     have hnw1:Nw w1 w5:=((HW1.out.trans N3.out).trans HNB.out).trans' Q.out.2.1 (fun g hg hc=>by have:=HS.out.2.2 g hc;omega)
     refine⟨m',cnt+1,x,acc++[p],by go_num,by omega,rfl,by omega,g3,HE2.out,?_,by rw[List.length_append,HC.out];rfl,by omega,?_,hnw,hnw1,fun g hg=>?_⟩
     ·have e:([p]:List Pc).flatMap pcV=pcV p:=by simp
      rw[List.flatMap_append,e]
      exact Q.out.1
     ·intro q hq
      rcases List.mem_append.1 hq with hq|hq
      ·exact HOK.out q hq
      ·rw[List.mem_singleton]at hq;subst hq;exact HPK.out
     ·rcases Q.out.2.2 with h|h
      ·exact HS.out.2.2 g (h▸hg)
      ·have h1:=h g hg
       have h2:=((HW1.out.trans N3.out).trans HNB.out).size
       simp only[World.size_alloc]at h2
       exact Nat.le_trans h2 h1
    case measure=>simp[intOf]
  ·obtain rfl:m=0:=by omega
   have rr:=HE1.out
   unfold pcsFrom at rr
   have r2:=HR.out
   rw[←rr]at r2
   simp only at r2
   have h0:=N1.out.size
   have hown:OwnP w wr (.slice sa cnt sc) acc:=⟨by rw[HC.out];exact HS.out.1,HOK.out,HS.out.2.1,fun g hg=>by have:=HS.out.2.2 g hg;omega⟩
   have HOWN:=zH hown
   have HRT:=zH (Right_ok hown.pcs)
   clear rr hown h0
   by_cases hlt:at_<(u.length:Int)
   ·have q6:decide (at_<(u.length:Int))=true:=by simpa using hlt
    rw[if_pos hlt]at r2
    obtain⟨rfl,rfl⟩:[]=r∧10=e:=by simpa using r2
    clear r2
    go_wp2
    refine bodyPost_ret (v:=.tuple #[.slice none 0 0,.int .i64 10]) (by simp[results,Tryz.results93,go_sem]) rfl ⟨_,rfl,OwnP.nil HS.out.2.1⟩
   have q6:decide (at_<(u.length:Int))=false:=by simpa using hlt
   rw[if_neg hlt]at r2
   cases hrt:rightL acc
   case false =>
    rw[hrt]at r2 HRT
    obtain⟨rfl,rfl⟩:[]=r∧14=e:=by simpa using r2
    clear r2
    go_wp2_with fail
    refine HRT.out.mono ?_
    rintro z w4 ⟨rfl,n4⟩
    have N4:=zH (HS.out.2.1.trans n4)
    clear n4
    go_wp2
    refine bodyPost_ret (v:=.tuple #[.slice none 0 0,.int .i64 14]) (by simp[results,Tryz.results93,go_sem]) rfl ⟨_,rfl,OwnP.nil N4.out⟩
   case true =>
    rw[hrt]at r2 HRT
    obtain⟨rfl,rfl⟩:acc=r∧0=e:=by simpa using r2
    clear r2
    go_wp2_with fail
    refine HRT.out.mono ?_
    rintro z w4 ⟨rfl,n4⟩
    have O4:=zH (HOWN.out.nw n4)
    clear n4
    go_wp2
    refine bodyPost_ret (v:=.tuple #[.slice sa cnt sc,.int .i64 0]) (by simp[results,Tryz.results93,go_sem]) rfl ⟨_,rfl,O4.out⟩
theorem cell_of {W:World}{p:Nat}{cs:Array Value}{t:TypeId}{fz:Nat×Nat}(h:W.heap[p]? = some (.cells cs t fz)){i:Nat}{v:Value}(hi:cs[i]? = some v):W.cell? ⟨p,i,none⟩=some v:=by simp[World.cell?,h,hi]
theorem read_len {d:Dsk}(ok:d.Ok) (n:Str):(d.read n).1.length≤16777216:=by
 unfold Dsk.read
 split
 ·simp
 ·split
  ·simp
  ·rename_i f hf
   exact bytes_le ok hf
section
variable {X Y:Nat→Prop}{w0 w w':World}{b:Nat}{d d':Dsk}
theorem pcs_last {l:List Pc}{a:Option Addr}{n cap:Nat}(h:Pcs w (.slice a (n+1) cap) l) (hn:l.length=n+1) :
  ∃g o,a=some ⟨g,o,none⟩∧g<w.heap.size∧w.cell? ⟨g,o+n*4,none⟩=some (.string ⟨(lastP l).name.toArray⟩)∧w.cell? ⟨g,o+n*4+1,none⟩=some (.int .i64 (lastP l).first):=by
 obtain⟨g,o,ha,hg,x0,x1,-,-⟩:=pcs_at h hn (k:=n) (by omega)
 have hne:l≠[]:=fun e=>by rw[e]at hn;simp at hn
 have:=lastP_at hne
 have e:l[l.length-1]'(by omega)=l[n]'(by omega):=by congr 1;omega
 rw[←e,this]at x0 x1
 exact⟨g,o,ha,hg,x0,x1⟩
theorem Pcs.kept {v:Value}{l:List Pc}(h:Pcs w v l) (hk:Kept Y w w') (hy:∀g,v.ownBlock=some g→Y g):Pcs w' v l:=by
 refine⟨?_,h.ok⟩
 obtain⟨e,⟨a,hv,hn⟩|⟨g,o,cap,hv,h1,h2,h3,h4⟩⟩:=h.src
 ·exact⟨e,.inl ⟨a,hv,hn⟩⟩
 ·subst hv
  exact⟨e,.inr ⟨g,o,cap,rfl,h1,h2,Nat.lt_of_lt_of_le h3 hk.1,fun j hj=>hk.cell (h4 j hj) (hy g rfl)⟩⟩
theorem HasL.less {p:Nat}{L:Lg}(h:HasL X w0 w p b d L) (hy:∀k,Y k→X k):HasL Y w0 w p b d L:=by
 obtain⟨g,o,cap,h⟩:=h
 exact⟨g,o,cap,h.mem,h.disk.weak fun k hk=>hk.imp (hy k) id,h.p0,fun hc=>h.p1 (hy _ hc),h.g0,h.g1.1,fun hc=>h.g1.2 (hy _ hc)⟩
theorem Resume_ok (h:HasX X w0 w b d){v:Value}{l:List Pc}(hv:Pcs w v l) (hx:∀g,v.ownBlock=some g→X g){size:Int}(hs:64≤size∧size≤16777216) (hr:rightL l=true){n:Nat}(hn:n≤2305843009213693952) :
  Calls Tryz.prog 36 #[.pointer (some ⟨b,0,none⟩),.int .i64 size,v,.int .i64 n] w (Created X w0 w b (resumeD d size l n).1 (resumeD d size l n).2 (onLg d size l n)):=by
 have H:=zH h
 have HV:=zH hv
 have HX:=zH hx
 have HSZ:=zH (fun W=>sized_ok size (ok:=true) (by simp[hs]) W)
 have HRT:=zH (Right_ok hv)
 rw[hr]at HRT
 have hpl:=(rightL_bound hr).1
 have hpl2:=(rightL_bound hr).2.1
 obtain⟨R,hR⟩:=zN (resumeD d size l n)
 have HR:=zH hR
 rw[hR]
 unfold resumeD at hR
 obtain⟨np,hnp⟩:=zN (l.length)
 rw[hnp]at hpl hpl2
 obtain⟨nq,rfl⟩:∃k,np=k+1:=⟨np-1,by omega⟩
 have HNP:=zH hnp
 obtain⟨a,cap,rfl,-,-,-⟩:=hv.elem
 rw[hnp]at HV HX HRT ⊢
 obtain⟨g,o,rfl,hg,x0,x1⟩:=pcs_last HV.out hnp
 obtain⟨nm,hnm⟩:=zN ((lastP l).name)
 obtain⟨fi,hfi⟩:=zN ((lastP l).first)
 rw[hnm]at x0 hR
 rw[hfi]at x1 hR
 have hw2:((nq+1:Nat):Int)-1=(nq:Int):=by omega
 have hw1:IntKind.i64.wrap (((nq+1:Nat):Int)-1)=(nq:Int):=by rw[IntWalk.i64_in _ (by omega)];exact hw2
 have HFI:=zH hfi
 have HNM:=zH hnm
 have HRI:=zH hr
 clear h hv hx hnp hnm hfi hr
 by_cases hf:(n:Int)<fi
 case pos =>
  rw[if_pos (.inr (.inr (.inr (.inl hf))))]at hR
  have q1:decide ((n:Int)<fi)=true:=by simpa using hf
  subst hR
  clear hf
  go_enter Tryz.func36,Tryz.ntmps36
  go_wp2_with fail
  refine (HSZ.out w).mono ?_
  rintro e w1 ⟨rfl,rfl⟩
  go_wp2_with fail
  refine HRT.out.mono ?_
  rintro e w2 ⟨rfl,n2⟩
  have N2:=zH n2
  have x1:=n2.cell x1
  have hg:=Nat.lt_of_lt_of_le hg n2.size
  clear n2 x0
  go_wp2
  refine bodyPost_ret (v:=.tuple #[.pointer none,.int .i64 2]) (by simp[results,Tryz.results36,go_sem]) rfl ⟨N2.out.kept,.inr ⟨by decide,rfl,H.out.nw N2.out⟩⟩
 rw[if_neg (by rw[HRI.out];rintro (h|h|h|h|h) <;> first|omega|cases h)]at hR
 have q1:decide ((n:Int)<fi)=false:=by simpa using hf
 have q2:decide ((2305843009213693952:Int)<(n:Int))=false:=by simp;omega
 obtain⟨⟨lb,ex⟩,hrd⟩:=zN (d.read nm)
 obtain⟨⟨d2,sx⟩,hsy⟩:=zN (d.sync nm)
 have HRD:=zH (fun W (hw:Nw w W)=>(H.out.nw hw).read nm hrd)
 have HSY:=zH (fun W (hw:Nw w W)=>(H.out.nw hw).sync nm hsy)
 have HLB:Hid (ex=0→(fileOf d.files nm).bytes=lb∧lb.length≤16777216):=zH (fun he=>by
  subst he
  have h1:=read_len H.out.ok nm
  rw[hrd]at h1
  refine⟨?_,h1⟩
  unfold Dsk.read at hrd
  split at hrd
  ·simp at hrd
  ·unfold fileOf
   split at hrd
   ·simp at hrd
   ·rename_i f hf
    rw[hf]
    simp only[Prod.mk.injEq,and_true]at hrd
    exact hrd)
 rw[hrd,hsy]at hR
 simp only at hR
 have HR1:=zH hR
 clear hrd hsy hR hf
 go_enter Tryz.func36,Tryz.ntmps36
 go_wp2_with fail
 refine (HSZ.out w).mono ?_
 rintro e w1 ⟨rfl,rfl⟩
 go_wp2_with fail
 refine HRT.out.mono ?_
 rintro e w2 ⟨rfl,n2⟩
 have N2:=zH n2
 have x0:=n2.cell x0
 have x1:=n2.cell x1
 have hg:=Nat.lt_of_lt_of_le hg n2.size
 clear n2
 go_wp2_with fail
 refine (HRD.out _ N2.out).mono ?_
 rintro e w3 ⟨v3,rfl,o3,n3,-⟩
 have o3l:=o3.rd.len
 obtain⟨ya,yc,rfl,-⟩:=o3l
 obtain⟨lbn,hlb⟩:=zN (lb.length)
 rw[hlb]
 have HLN:=zH hlb
 have N3:=zH (N2.out.trans n3)
 clear o3 n3 x0 x1 hg hlb
 by_cases he:ex=0
 case neg =>
  have q3:(ex==0)=false:=by simpa using he
  have q4:(ex !=0)=true:=by simpa using he
  have rr:=HR1.out
  rw[if_pos he]at rr
  subst rr
  have HE:=zH he
  clear he
  go_wp2
  refine bodyPost_ret (v:=.tuple #[.pointer none,.int .i64 ex]) (by simp[results,Tryz.results36,go_sem]) rfl ⟨N3.out.kept,.inr ⟨HE.out,rfl,H.out.nw N3.out⟩⟩
 subst he
 have rr:=HR1.out
 rw[if_neg (by simp)]at rr
 subst rr
 go_wp2_with fail
 refine (HSY.out _ N3.out).mono ?_
 rintro e w4 ⟨rfl,h4,k4⟩
 have H4:=zH h4
 have K4:Hid (Kept X w w4):=zH (N3.out.kept.trans k4)
 have V4:=zH (HV.out.kept K4.out HX.out)
 clear h4 k4
 by_cases hsx:sx=0
 case neg =>
  have q4:(sx !=0)=true:=by simpa using hsx
  have HE:=zH hsx
  clear hsx
  go_wp2
  refine bodyPost_ret (v:=.tuple #[.pointer none,.int .i64 sx]) (by simp[results,Tryz.results36,go_sem]) rfl ⟨K4.out,.inr ⟨HE.out,rfl,H4.out⟩⟩
 subst hsx
 have CL:=zH (PClone_ok V4.out (by rw[HNP.out];omega))
 go_wp2_with fail
 refine CL.out.mono ?_
 rintro e w5 ⟨v5,rfl,q5,n5,f5⟩
 rw[HNP.out]at q5
 have q5l:=q5.lt
 obtain⟨-,⟨-,h0⟩|⟨g5,o5,cap5,rfl,c1,c2,c3,-,-,c6⟩⟩:=q5
 ·omega
 have HQ:Hid (Pcs w5 (.slice (some ⟨g5,o5,none⟩) (nq+1) cap5) l):=zH ⟨⟨by rw[HNP.out];have:=V4.out.src.1;rwa [HNP.out]at this,.inr ⟨g5,o5,cap5,by rw[HNP.out],by rw[HNP.out];exact c1,c2,c3,c6⟩⟩,V4.out.ok⟩
 have N5:=zH n5
 have HG5:Hid (w4.heap.size≤g5∧g5<w5.heap.size):=zH ⟨f5 g5 rfl,c3⟩
 clear q5l c1 c2 c3 c6 CL f5
 go_wp2
 refine bodyPost_ret (v:=.tuple #[.pointer (some ⟨w5.heap.size,0,none⟩),.int .i64 0]) (by simp[results,Tryz.results36,go_sem]) rfl ?_
 have n6:=(Nw.refl w5).alloc (.cells #[.pointer (some ⟨b,0,none⟩),.int .i64 size,.slice (some ⟨g5,o5,none⟩) (nq+1) cap5,.int .i64 n,.int .i64 n,.int .i64 lbn,.bool false] 116 (0,0))
 have hb6:=heap_alloc_new w5 (.cells #[.pointer (some ⟨b,0,none⟩),.int .i64 size,.slice (some ⟨g5,o5,none⟩) (nq+1) cap5,.int .i64 n,.int .i64 n,.int .i64 lbn,.bool false] 116 (0,0))
 have hs4:=H4.out.base.size
 have hg5:=HG5.out
 have hs5:=N5.out.size
 refine⟨K4.out.trans (N5.out.kept.trans n6.kept),.inl ⟨rfl,w5.heap.size,rfl,g5,o5,cap5,⟨?_,?_,?_⟩,?_,by omega,fun hx=>?_,by omega,by omega,fun hx=>?_⟩⟩
 ·rw[hb6]
  have h1:=(HLB.out (by first|rfl|trivial)).1
  have h2:=HLN.out
  simp only[onLg,HNP.out,HNM.out,h1,h2]
 ·have:=HQ.out.nw n6
  simpa only [onLg,HNP.out] using this
 ·exact fun e=>by have:=HNP.out;rw[show l=[] from e]at this;simp at this
 ·refine H4.out.nwY (N5.out.trans n6) (fun k hk=>?_)
  have hsz:(w5.alloc (.cells #[.pointer (some ⟨b,0,none⟩),.int .i64 size,.slice (some ⟨g5,o5,none⟩) (nq+1) cap5,.int .i64 n,.int .i64 n,.int .i64 lbn,.bool false] 116 (0,0))).heap.size=w5.heap.size+1:=by simp
  rw[hsz]
  rcases hk with hk|rfl|rfl
  ·exact .inl hk
  ·exact .inr ⟨by omega,by omega⟩
  ·exact .inr ⟨by omega,by omega⟩
 ·have:=H4.out.lt _ hx;omega
 ·have:=H4.out.lt _ hx;omega
end
theorem frs_len (b:List UInt8):∀(k:Nat) (at_:Int) (acc:List Ev),((b.length:Int)-at_).toNat=k→0≤at_→at_≤b.length→((frs b at_ acc).1.length:Int)≤acc.length+(b.length-at_):=by
 intro k
 induction k using Nat.strongRecOn with
 |ind k ih =>
  intro at_ acc hk h0 h1
  by_cases he:(readFr b at_).2.2=0
  ·have hf:=readFr_fine he
   have hl:=readFr_len he
   rw[frs_yes he]
   have:=ih _ (by omega) (readFr b at_).2.1 (acc++(readFr b at_).1) rfl (by omega) hf.2.2.1
   rw[List.length_append]at this
   omega
  ·rw[frs_no he]
   simp only
   omega
theorem headR_place {l:List UInt8}(h:(headR l).2.2=0):0≤(headR l).2.1∧(headR l).2.1≤l.length:=by
 unfold headR at h ⊢
 split
 ·rename_i hx;rw[if_pos hx]at h;exact absurd h (by simp)
 rename_i h1
 rw[if_neg h1]at h
 split
 ·rename_i hx;rw[if_pos hx]at h;exact absurd h (by simp)
 rename_i h2
 rw[if_neg h2]at h
 split
 ·rename_i hx;rw[if_pos hx]at h;exact absurd h (by simp)
 rename_i h3
 rw[if_neg h3]at h
 split
 ·rename_i hx;rw[if_pos hx]at h;exact absurd h hx
 rename_i h4
 rw[if_neg h4]at h
 have hg:=getU_fine (b:=l) (at_:=4) (by rcases Decidable.em ((getU l 4).2.2=0) with h|h;exact h;exact absurd h h4)
 split
 ·rename_i hx;rw[if_pos hx]at h;exact absurd h (by simp)
 rename_i h5
 rw[if_neg h5]at h
 split
 ·rename_i hx;rw[if_pos hx]at h;exact absurd h hx
 ·simp only
  omega
theorem scanB_len (b:List UInt8):(scanB b).2.1.length≤b.length:=by
 unfold scanB
 split
 ·simp
 ·rename_i h
  have h0:(headR b).2.2=0:=by rcases Decidable.em ((headR b).2.2=0) with h1|h1;exact h1;exact absurd h1 h
  obtain⟨a,c⟩:=headR_place h0
  have:=frs_len b _ (headR b).2.1 [] rfl a c
  simp only[List.length_nil]at this
  simp only
  omega
theorem listedB_right {b:List UInt8}(h:(listedB b).2=0):rightL (listedB b).1=true:=by
 unfold listedB at h ⊢
 split
 ·rename_i hx;rw[if_pos hx]at h;exact absurd h hx
 rename_i h1
 rw[if_neg h1]at h
 unfold listedIn at h ⊢
 split
 ·rename_i hx;rw[if_pos hx]at h;exact absurd h (by simp)
 rename_i h2
 rw[if_neg h2]at h
 split
 ·rename_i hx;rw[if_pos hx]at h;exact absurd h (by simp)
 rename_i h3
 rw[if_neg h3]at h
 cases hp:pcsFrom (unsealB b).1 (getU (unsealB b).1 4).1 (getU (unsealB b).1 4).2.1 [] with
 |none=>rw[hp]at h;exact absurd h (by simp)
 |some r =>
  rw[hp]at h
  simp only at h ⊢
  split
  ·rename_i hx;rw[if_pos hx]at h;exact absurd h (by simp)
  rename_i h4
  rw[if_neg h4]at h
  split
  ·rename_i hx;exact hx
  ·rename_i hx;rw[if_neg hx]at h;exact absurd h (by simp)
structure DenOk (U:List UInt8→Int×List Ev×Int):Prop where
 calls:∀(W:World) (v:Value) (b:List UInt8),Bs W v b→b.length≤16777216→Calls Tryz.prog 143 #[v] W fun z w'=>∃v',z=.returned (.tuple #[.int .i64 (U b).1,v',.int .i64 (U b).2.2])∧OwnE W w' v' (U b).2.1
 len:∀b,(U b).2.1.length≤16777216
section
variable {X:Nat→Prop}{w0 w:World}{b:Nat}{d:Dsk}{U:List UInt8→Int×List Ev×Int}
theorem read_ok (h:HasX X w0 w b d) (n:Str){l:List UInt8}{x:Int}(hr:readFl d n=(l,x)) :
  Calls Tryz.prog 142 #[.pointer (some ⟨b,0,none⟩),.string ⟨n.toArray⟩] w fun e w'=>∃v,e=.returned (.tuple #[v,.int .i64 x])∧Bs w' v l∧Nw w w':=by
 obtain⟨⟨l1,x1⟩,hd⟩:=zN (d.read n)
 have HR:=zH (h.read n hd)
 unfold readFl at hr
 rw[hd]at hr
 simp only[Prod.mk.injEq]at hr
 obtain⟨rfl,hx⟩:=hr
 clear h hd
 by_cases c1:x1=13
 ·subst c1
  obtain rfl:14=x:=by simpa using hx
  go_enter Tryz.func142,Tryz.ntmps142
  go_wp2_with fail
  refine HR.out.mono ?_
  rintro z w1 ⟨v1,rfl,o1,n1,-⟩
  have O1:=zH o1.rd
  have N1:=zH n1
  clear o1 n1
  go_wp2
  refine bodyPost_ret (v:=.tuple #[v1,.int .i64 14]) (by simp[results,Tryz.results142,go_sem]) rfl ⟨_,rfl,O1.out,N1.out⟩
 ·have q1:(x1==13)=false:=by simpa using c1
  rw[if_neg c1]at hx
  subst hx
  go_enter Tryz.func142,Tryz.ntmps142
  go_wp2_with fail
  refine HR.out.mono ?_
  rintro z w1 ⟨v1,rfl,o1,n1,-⟩
  have O1:=zH o1.rd
  have N1:=zH n1
  clear o1 n1
  go_wp2
  refine bodyPost_ret (v:=.tuple #[v1,.int .i64 x1]) (by simp[results,Tryz.results142,go_sem]) rfl ⟨_,rfl,O1.out,N1.out⟩
theorem readFl_len {d:Dsk}(ok:d.Ok) (n:Str):(readFl d n).1.length≤16777216:=read_len ok n
theorem segR_len (hU:∀b,(U b).2.1.length≤16777216){l:List UInt8}(hl:l.length≤16777216) (dn:Bool):(segR U dn l).2.1.length≤16777216:=by
 unfold segR
 split
 ·exact hU l
 ·have:=scanB_len l;omega
theorem RPiece_ok (h:HasX X w0 w b d) (q:Pc) (op:Bool) (hU:q.dense=true→DenOk U){es:List Ev}{g x:Int}(hr:pieceD U d q op=(es,g,x)) :
  Calls Tryz.prog 94 #[.pointer (some ⟨b,0,none⟩),.agg #[.string ⟨q.name.toArray⟩,.int .i64 q.first,.int .i64 q.count,.bool q.dense],.bool op] w
   fun z w'=>∃v',z=.returned (.tuple #[v',.int .i64 g,.int .i64 x])∧OwnE w w' v' es:=by
 obtain⟨⟨l,x1⟩,hd⟩:=zN (readFl d q.name)
 have hl:l.length≤16777216:=by have:=readFl_len h.ok q.name;rw[hd]at this;exact this
 obtain⟨S,hS⟩:=zN (segR U q.dense l)
 have hall:(if x1≠0 then ([],0,x1) else if segBad U q op l then ([],0,14) else (S.2.1,S.2.2.1,0))=(es,g,x):=by
  rw[←hr,←hS];unfold pieceD;rw[hd]
 have n1:=(Nw.refl w).alloc (.cells #[.string ⟨q.name.toArray⟩,.int .i64 q.first,.int .i64 q.count,.bool q.dense] 98)
 have b1:=heap_alloc_new w (.cells #[.string ⟨q.name.toArray⟩,.int .i64 q.first,.int .i64 q.count,.bool q.dense] 98)
 have HR:=zH (read_ok (h.nw n1) q.name hd)
 have c0:(w.alloc (.cells #[.string ⟨q.name.toArray⟩,.int .i64 q.first,.int .i64 q.count,.bool q.dense] 98)).cell? ⟨w.heap.size,0,none⟩=some (.string ⟨q.name.toArray⟩):=cell_of b1 rfl
 have N1:=zH n1
 have B1:=zH b1
 have HSeg:=zH hS
 have HBad:Hid (segBad U q op l↔(S.2.2.2≠0∨S.1≠q.first∨(op=false∧(S.2.2.1<l.length∨(S.2.1.length:Int)≠q.count)))):=zH (by unfold segBad;rw[hS])
 obtain⟨n,f0,cn,dn⟩:=q
 simp only at HR c0 HSeg HBad N1 B1 hU ⊢
 clear h hr hd hS n1 b1
 by_cases e1:x1=0
 case neg =>
  have q1:(x1 !=0)=true:=by simpa using e1
  rw[if_pos e1]at hall
  obtain⟨rfl,rfl,rfl⟩:[]=es∧0=g∧x1=x:=by simpa using hall
  clear hall hU hl
  go_enter Tryz.func94,Tryz.ntmps94
  go_wp2_with fail
  refine HR.out.mono ?_
  rintro z w2 ⟨v2,rfl,-,n2⟩
  have N2:=zH (N1.out.trans n2)
  clear n2
  go_wp2
  refine bodyPost_ret (v:=.tuple #[.slice none 0 0,.int .i64 0,.int .i64 x1]) (by simp[results,Tryz.results94,go_sem]) rfl ⟨_,rfl,Vec.nil,N2.out,fun g hg=>by cases hg⟩
 subst e1
 rw[if_neg (by simp)]at hall
 have HALL:=zH hall
 clear hall
 obtain⟨ln,hln⟩:=zN (l.length)
 have HLN:=zH hln
 obtain⟨fi,se,gd,er⟩:=S
 simp only at HSeg HBad HALL
 obtain⟨ne,hne⟩:=zN (se.length)
 have HNE:=zH hne
 rw[hln,hne]at HBad
 clear hne
 have HSC:Hid (∀(W:World) (v:Value),Bs W v l→dn=false→Calls Tryz.prog 144 #[v] W fun z w'=>∃v',z=.returned (.tuple #[.int .i64 fi,v',.int .i64 gd,.int .i64 er])∧OwnE W w' v' se):=zH (fun W v hb hdn=>SScan_ok hb (by omega) (by have:=HSeg.out;unfold segR at this;rw[hdn]at this;simpa using this))
 have HUN:Hid (∀(W:World) (v:Value),Bs W v l→dn=true→gd=(ln:Int)∧Calls Tryz.prog 143 #[v] W fun z w'=>∃v',z=.returned (.tuple #[.int .i64 fi,v',.int .i64 er])∧OwnE W w' v' se):=zH (fun W v hb hdn=>by
  have:=HSeg.out;unfold segR at this;rw[hdn]at this
  simp only[if_true,Prod.mk.injEq]at this
  obtain⟨a1,a2,a3,a4⟩:=this
  refine⟨by rw[←a3,hln],?_⟩
  have C:=(hU hdn).calls W v l hb hl
  rw[a1,a2,a4]at C
  exact C)
 clear hln hU
 go_enter Tryz.func94,Tryz.ntmps94
 go_wp2_with fail
 refine HR.out.mono ?_
 rintro z w2 ⟨v2,rfl,b2,n2⟩
 obtain⟨xa,xc,rfl,hxl⟩:=b2.len
 rw[HLN.out]at hl b2 ⊢
 have BS:=zH b2
 have B2:=n2.at_ B1.out
 obtain⟨k0,k1,k2,k3⟩:w2.cell? ⟨w.heap.size,0,none⟩=some (.string ⟨n.toArray⟩)∧w2.cell? ⟨w.heap.size,1,none⟩=some (.int .i64 f0)∧w2.cell? ⟨w.heap.size,2,none⟩=some (.int .i64 cn)∧w2.cell? ⟨w.heap.size,3,none⟩=some (.bool dn):=by simp[World.cell?,B2]
 have hbl:=lt_of_block B2
 have N2:=zH (N1.out.trans n2)
 have B2:=zH B2
 clear n2 b2 c0 HR hxl k0 k1 k2
 go_upto_if 27 with fail
 go_cut [10,11,12,13] (fun ve vf vg vv wx=>∃a c,ve=.int .i64 er∧vf=.int .i64 fi∧vg=.int .i64 gd∧vv=.slice a ne c∧OwnE w wx vv se∧Nw w2 wx)
 case first =>
  cases dn
  ·go_wp2_with fail
   refine (HSC.out _ _ BS.out (by first|rfl|trivial)).mono ?_
   rintro z w3 ⟨v3,rfl,o3⟩
   have o31:=o3.1.len
   rw[HNE.out]at o31
   obtain⟨ya,yc,rfl,-⟩:=o31
   have O3:=zH (OwnE.from N2.out o3)
   have N3:=zH o3.2.1
   clear o3
   go_wp2_with fail
   go_meet
   case rel=>exact⟨ya,yc,rfl,rfl,rfl,rfl,O3.out,N3.out⟩
  ·obtain⟨hg,hc⟩:=HUN.out _ _ BS.out (by first|rfl|trivial)
   subst hg
   have HC:=zH hc
   clear hc
   go_wp2_with fail
   refine HC.out.mono ?_
   rintro z w3 ⟨v3,rfl,o3⟩
   have o31:=o3.1.len
   rw[HNE.out]at o31
   obtain⟨ya,yc,rfl,-⟩:=o31
   have O3:=zH (OwnE.from N2.out o3)
   have N3:=zH o3.2.1
   clear o3
   go_wp2_with fail
   go_meet
   case rel=>exact⟨ya,yc,rfl,rfl,rfl,rfl,O3.out,N3.out⟩
 case rest =>
  obtain⟨ya,yc,rfl,rfl,rfl,rfl,o3,n3⟩:=hcut
  have O3:=zH o3
  have B3:=n3.at_ B2.out
  obtain⟨k1,k2⟩:wc.cell? ⟨w.heap.size,1,none⟩=some (.int .i64 f0)∧wc.cell? ⟨w.heap.size,2,none⟩=some (.int .i64 cn):=by simp[World.cell?,B3]
  have hbl3:=lt_of_block B3
  clear o3 n3 B3 hbl k3
  by_cases d1:er=0
  case neg =>
   have q1:(er !=0)=true:=by simpa using d1
   have ha:=HALL.out
   rw[if_pos (HBad.out.2 (.inl d1))]at ha
   obtain⟨rfl,rfl,rfl⟩:[]=es∧0=g∧14=x:=by simpa using ha
   clear ha
   go_wp2
   refine bodyPost_ret (v:=.tuple #[.slice none 0 0,.int .i64 0,.int .i64 14]) (by simp[results,Tryz.results94,go_sem]) rfl ⟨_,rfl,Vec.nil,O3.out.2.1,fun g hg=>by cases hg⟩
  subst d1
  by_cases d2:fi=f0
  case neg =>
   have q1:(fi !=f0)=true:=by simpa using d2
   have ha:=HALL.out
   rw[if_pos (HBad.out.2 (.inr (.inl d2)))]at ha
   obtain⟨rfl,rfl,rfl⟩:[]=es∧0=g∧14=x:=by simpa using ha
   clear ha
   go_wp2
   refine bodyPost_ret (v:=.tuple #[.slice none 0 0,.int .i64 0,.int .i64 14]) (by simp[results,Tryz.results94,go_sem]) rfl ⟨_,rfl,Vec.nil,O3.out.2.1,fun g hg=>by cases hg⟩
  have q2:(fi !=f0)=false:=by simpa using d2
  cases op
  case true =>
   have ha:=HALL.out
   rw[if_neg (fun hb=>by
    rcases HBad.out.1 hb with h|h|⟨h,-⟩
    ·exact h rfl
    ·exact h d2
    ·cases h)]at ha
   obtain⟨rfl,rfl,rfl⟩:se=es∧gd=g∧0=x:=by simpa using ha
   clear ha
   go_wp2
   refine bodyPost_ret (v:=.tuple #[.slice ya ne yc,.int .i64 gd,.int .i64 0]) (by simp[results,Tryz.results94,go_sem]) rfl ⟨_,rfl,O3.out⟩
  case false =>
   by_cases d3:gd<(ln:Int)
   case pos =>
    have q3:decide (gd<(ln:Int))=true:=by simpa using d3
    have ha:=HALL.out
    rw[if_pos (HBad.out.2 (.inr (.inr ⟨rfl,.inl d3⟩)))]at ha
    obtain⟨rfl,rfl,rfl⟩:[]=es∧0=g∧14=x:=by simpa using ha
    clear ha
    go_wp2
    refine bodyPost_ret (v:=.tuple #[.slice none 0 0,.int .i64 0,.int .i64 14]) (by simp[results,Tryz.results94,go_sem]) rfl ⟨_,rfl,Vec.nil,O3.out.2.1,fun g hg=>by cases hg⟩
   have q3:decide (gd<(ln:Int))=false:=by simpa using d3
   by_cases d4:(ne:Int)=cn
   case neg =>
    have q4:((ne:Int)!=cn)=true:=by simpa using d4
    have ha:=HALL.out
    rw[if_pos (HBad.out.2 (.inr (.inr ⟨rfl,.inr d4⟩)))]at ha
    obtain⟨rfl,rfl,rfl⟩:[]=es∧0=g∧14=x:=by simpa using ha
    clear ha
    go_wp2
    refine bodyPost_ret (v:=.tuple #[.slice none 0 0,.int .i64 0,.int .i64 14]) (by simp[results,Tryz.results94,go_sem]) rfl ⟨_,rfl,Vec.nil,O3.out.2.1,fun g hg=>by cases hg⟩
   have q4:((ne:Int)!=cn)=false:=by simpa using d4
   have ha:=HALL.out
   rw[if_neg (fun hb=>by
    rcases HBad.out.1 hb with h|h|⟨-,h|h⟩
    ·exact h rfl
    ·exact h d2
    ·exact d3 h
    ·exact h d4)]at ha
   obtain⟨rfl,rfl,rfl⟩:se=es∧gd=g∧0=x:=by simpa using ha
   clear ha
   go_wp2
   refine bodyPost_ret (v:=.tuple #[.slice ya ne yc,.int .i64 gd,.int .i64 0]) (by simp[results,Tryz.results94,go_sem]) rfl ⟨_,rfl,O3.out⟩
end
end Go.Proofs.YtkbenkldfehhlaaGreatDoor
