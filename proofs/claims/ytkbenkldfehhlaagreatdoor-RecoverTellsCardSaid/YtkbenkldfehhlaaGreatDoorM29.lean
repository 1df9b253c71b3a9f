/-
  Texts merged by a program of this claim's: UnpC, Names, RecC, RecD, RecE.
-/
import Derived.Test.YtkbenkldfehhlaaGreatDoorM28
import Derived.Test.YtkbenkldfehhlaaGreatDoorM26
import Derived.Test.YtkbenkldfehhlaaGreatDoorM9
import Derived.Test.YtkbenkldfehhlaaGreatDoorM27
import Derived.Test.YtkbenkldfehhlaaGreatDoorM19
namespace Go.Proofs.YtkbenkldfehhlaaGreatDoor
open Go Go.RowKit Go.Sort
set_option maxRecDepth 100000
set_option maxHeartbeats 1600000
theorem idx_put0 (w:World):(Instr.index 212 (.agg #[.func (.func 210) #[] #[],.func (.func 211) #[] #[],.func (.func 212) #[] #[],.func (.func 213) #[] #[],.func (.func 214) #[] #[]]) (.int .i64 0)).run Tryz.prog w=.ok (.func (.func 210) #[] #[]) w:=by kernel_rfl
theorem idx_put1 (w:World):(Instr.index 212 (.agg #[.func (.func 210) #[] #[],.func (.func 211) #[] #[],.func (.func 212) #[] #[],.func (.func 213) #[] #[],.func (.func 214) #[] #[]]) (.int .i64 1)).run Tryz.prog w=.ok (.func (.func 211) #[] #[]) w:=by kernel_rfl
theorem idx_put2 (w:World):(Instr.index 212 (.agg #[.func (.func 210) #[] #[],.func (.func 211) #[] #[],.func (.func 212) #[] #[],.func (.func 213) #[] #[],.func (.func 214) #[] #[]]) (.int .i64 2)).run Tryz.prog w=.ok (.func (.func 212) #[] #[]) w:=by kernel_rfl
theorem idx_put3 (w:World):(Instr.index 212 (.agg #[.func (.func 210) #[] #[],.func (.func 211) #[] #[],.func (.func 212) #[] #[],.func (.func 213) #[] #[],.func (.func 214) #[] #[]]) (.int .i64 3)).run Tryz.prog w=.ok (.func (.func 213) #[] #[]) w:=by kernel_rfl
theorem idx_put4 (w:World):(Instr.index 212 (.agg #[.func (.func 210) #[] #[],.func (.func 211) #[] #[],.func (.func 212) #[] #[],.func (.func 213) #[] #[],.func (.func 214) #[] #[]]) (.int .i64 4)).run Tryz.prog w=.ok (.func (.func 214) #[] #[]) w:=by kernel_rfl
theorem zeros_list (n:Nat):(List.range (n*5)).map (fun i=>(evV Ev.zero).toArray[i % 5]!)=(List.replicate n Ev.zero).flatMap evV:=by
 induction n with
 |zero=>rfl
 |succ n ih =>
  have e:(n+1)*5=n*5+1+1+1+1+1:=by omega
  have h0:(n*5) % 5=0:=by omega
  have h1:(n*5+1) % 5=1:=by omega
  have h2:(n*5+1+1) % 5=2:=by omega
  have h3:(n*5+1+1+1) % 5=3:=by omega
  have h4:(n*5+1+1+1+1) % 5=4:=by omega
  rw[e,List.range_succ,List.range_succ,List.range_succ,List.range_succ,List.range_succ,List.replicate_succ',List.flatMap_append,←ih]
  simp only[List.map_append,List.map_cons,List.map_nil,h0,h1,h2,h3,h4,List.append_assoc]
  rfl
theorem makeN (w:World) (n:Nat) (hn:n≤1048576) (k:IntKind):∃W,(Instr.makeSlice 31 (.int k n) (.int k n)).run Tryz.prog w=.ok (.slice (some ⟨w.heap.size,0,none⟩) n n) W∧Nw w W∧Vec 5 W (.slice (some ⟨w.heap.size,0,none⟩) n n) n ((List.replicate n Ev.zero).flatMap evV):=by
 obtain⟨i0,hi,hz0,hz1,hz2⟩:=info_parts infoEv
 have hr:=run_makeSlice (P:=Tryz.prog) w 31 87 i0 _ Tryz.underlying31 hi hz0 k k n n (by omega) (by omega) (by rw[hz1];omega) (by rw[hz2];omega) (by omega)
 rw[hz1]at hr
 have en:((n:Nat):Int).toNat=n:=by simp
 rw[en]at hr
 refine⟨_,hr,(Nw.refl w).alloc _,?_⟩
 have e:madeCells (Value.agg #[.int .i64 0,.int .u8 0,.int .i64 0,.int .i64 0,.int .i64 0]).cells (n*5)=((List.replicate n Ev.zero).flatMap evV).toArray:=by
  apply Array.ext'
  rw[List.toList_toArray,←zeros_list]
  unfold madeCells
  rw[Array.toList_map,Array.toList_range]
  rfl
 rw[e]
 exact vec_lit w 87 5 n _ _ (0,0) rfl (by rw[evs_len,List.length_replicate]) (by unfold maxLen;omega) (fun j _ h=>by simp at h)
theorem cols_len (u:List UInt8):∀(cs:List ((Ev→Int→Ev)×(Int→Bool))) (es:List Ev) (a:Int){r:List Ev}{x:Int},colsR u cs es a=some (r,x)→r.length≤es.length
 |[],es,a,r,x,h=>by simp only[colsR,Option.some.injEq,Prod.mk.injEq]at h;rw[←h.1];exact Nat.le_refl _
 |(set,ok)::cs,es,a,r,x,h=>by
  unfold colsR at h
  split at h
  ·cases h
  ·have:=cols_len u cs _ _ h
   rw[List.length_zipWith]at this
   omega
theorem unpack_len (b:List UInt8):(unpackB b).2.1.length≤1048576:=by
 unfold unpackB
 split
 ·simp
 unfold unpackIn
 split
 ·simp
 split
 ·simp
 split
 ·simp
 rename_i h1
 split
 ·simp
 rename_i es at_ hc
 split
 ·simp
 have:=cols_len _ _ _ _ hc
 rw[List.length_replicate]at this
 simp only
 omega
def UnpP (w:World) (r:Int×List Ev×Int) (z:Ending) (w':World):Prop:=∃v',z=.returned (.tuple #[.int .i64 r.1,v',.int .i64 r.2.2])∧OwnE w w' v' r.2.1
theorem UnpP.none {w w':World}{r:Int×List Ev×Int}{x:Int}(h:r=(0,[],x)) (hw:Nw w w'):UnpP w r (.returned (.tuple #[.int .i64 0,.slice none 0 0,.int .i64 x])) w':=
 ⟨_,by rw[h],by rw[h];exact Vec.nil,hw,fun g hg=>by cases hg⟩
theorem Unpack_ok {w:World}{v:Value}{b:List UInt8}(hv:Bs w v b) (hb:b.length≤16777216) :
  Calls Tryz.prog 143 #[v] w (UnpP w (unpackB b)):=by
 obtain⟨⟨u,e0⟩,hu⟩:=zN (unsealB b)
 have C0:=zH (Unseal_ok hv (by omega) hu)
 have hr:unpackB b=if e0≠0 then (0,[],e0) else unpackIn u:=by unfold unpackB;rw[hu]
 rw[hr]
 obtain⟨av,vc,rfl,-,-,-⟩:=hv.elems
 clear hu hr hv
 by_cases c0:e0=0
 case neg =>
  have q0:(e0 !=0)=true:=by simpa using c0
  rw[if_pos c0]
  go_enter Tryz.func143,Tryz.ntmps143
  go_wp2_with fail
  refine C0.out.mono ?_
  rintro z w1 ⟨v1,rfl,b1,n1⟩
  go_wp2
  refine bodyPost_ret (v:=.tuple #[.int .i64 0,.slice none 0 0,.int .i64 e0]) (by simp[results,Tryz.results143,go_sem]) rfl (UnpP.none rfl n1)
 subst c0
 rw[if_neg (by simp)]
 obtain⟨R,hR⟩:=zN (unpackIn u)
 rw[hR]
 unfold unpackIn at hR
 have HR:=zH hR
 clear hR
 go_enter Tryz.func143,Tryz.ntmps143
 go_wp2_with fail
 refine C0.out.mono ?_
 rintro z w1 ⟨v1,rfl,b1,n1⟩
 have hR:=HR.out
 clear HR
 obtain⟨ua,uc,rfl,hu1,hu2,-⟩:=b1.elems
 have hu63:u.length≤9223372036854775807:=by unfold maxLen at hu2;omega
 have HB:=zH b1
 have HN1:=zH n1
 have k1:=conv_str b1
 have HP:=zH (HP_ok u denseS w1)
 clear b1 n1 C0 hu1 hu2
 by_cases hp:denseS <+: u
 case neg =>
  rw[if_pos hp]at hR
  rw[show decide (denseS <+: u)=false by simpa using hp]at HP
  go_wp2_with fail
  refine HP.out.mono ?_
  rintro z w' ⟨rfl,rfl⟩
  go_wp2
  refine bodyPost_ret (v:=.tuple #[.int .i64 0,.slice none 0 0,.int .i64 10]) (by simp[results,Tryz.results143,go_sem]) rfl (UnpP.none hR.symm HN1.out)
 rw[if_neg (by simpa using hp)]at hR
 rw[show decide (denseS <+: u)=true by simpa using hp]at HP
 go_wp2_with fail
 refine HP.out.mono ?_
 rintro z w' ⟨rfl,rfl⟩
 obtain⟨⟨n1,x1,e1⟩,hg1⟩:=zN (getU u 4)
 have C1:=zH (GetUint_ok HB.out 4 ⟨by omega,by omega⟩ hg1)
 have hf1:=getU_fine (b:=u) (at_:=4)
 rw[hg1]at hf1 hR
 simp only at hf1 hR
 clear hg1
 by_cases c1:e1=0
 case neg =>
  have q1:(e1 !=0)=true:=by simpa using c1
  rw[if_pos (.inl c1)]at hR
  go_wp2_with fail
  refine C1.out.mono ?_
  rintro z w' ⟨rfl,rfl⟩
  go_wp2
  refine bodyPost_ret (v:=.tuple #[.int .i64 0,.slice none 0 0,.int .i64 10]) (by simp[results,Tryz.results143,go_sem]) rfl (UnpP.none hR.symm HN1.out)
 subst c1
 obtain⟨f1,f2,f3,f4⟩:=hf1 rfl
 by_cases c2:4611686018427387904<n1
 case pos =>
  have q1:decide ((4611686018427387904:Int)<(n1:Int))=true:=by simp;omega
  rw[if_pos (.inr c2)]at hR
  go_wp2_with fail
  refine C1.out.mono ?_
  rintro z w' ⟨rfl,rfl⟩
  go_wp2
  refine bodyPost_ret (v:=.tuple #[.int .i64 0,.slice none 0 0,.int .i64 10]) (by simp[results,Tryz.results143,go_sem]) rfl (UnpP.none hR.symm HN1.out)
 have q1:decide ((4611686018427387904:Int)<(n1:Int))=false:=by simp;omega
 rw[if_neg (by omega)]at hR
 obtain⟨⟨n2,x2,e2⟩,hg2⟩:=zN (getU u x1)
 have C2:=zH (GetUint_ok HB.out x1 ⟨by omega,by omega⟩ hg2)
 have hf2:=getU_fine (b:=u) (at_:=x1)
 rw[hg2]at hf2 hR
 simp only at hf2 hR
 clear hg2 hf1
 by_cases c3:e2=0
 case neg =>
  have q2:(e2 !=0)=true:=by simpa using c3
  rw[if_pos (.inl c3)]at hR
  go_wp2_with fail
  refine C1.out.mono ?_
  rintro z w' ⟨rfl,rfl⟩
  go_wp2_with fail
  refine C2.out.mono ?_
  rintro z w' ⟨rfl,rfl⟩
  go_wp2
  refine bodyPost_ret (v:=.tuple #[.int .i64 0,.slice none 0 0,.int .i64 10]) (by simp[results,Tryz.results143,go_sem]) rfl (UnpP.none hR.symm HN1.out)
 subst c3
 obtain⟨g1,g2,g3,g4⟩:=hf2 rfl
 by_cases c4:n2<1
 case pos =>
  rw[if_pos (.inr (.inl c4))]at hR
  go_wp2_with fail
  refine C1.out.mono ?_
  rintro z w' ⟨rfl,rfl⟩
  go_wp2_with fail
  refine C2.out.mono ?_
  rintro z w' ⟨rfl,rfl⟩
  go_wp2
  refine bodyPost_ret (v:=.tuple #[.int .i64 0,.slice none 0 0,.int .i64 10]) (by simp[results,Tryz.results143,go_sem]) rfl (UnpP.none hR.symm HN1.out)
 by_cases c5:1048576<n2
 case pos =>
  have q2:decide ((1048576:Int)<(n2:Int))=true:=by simp;omega
  rw[if_pos (.inr (.inr c5))]at hR
  go_wp2_with fail
  refine C1.out.mono ?_
  rintro z w' ⟨rfl,rfl⟩
  go_wp2_with fail
  refine C2.out.mono ?_
  rintro z w' ⟨rfl,rfl⟩
  go_wp2
  refine bodyPost_ret (v:=.tuple #[.int .i64 0,.slice none 0 0,.int .i64 10]) (by simp[results,Tryz.results143,go_sem]) rfl (UnpP.none hR.symm HN1.out)
 have q2:decide ((1048576:Int)<(n2:Int))=false:=by simp;omega
 rw[if_neg (by omega)]at hR
 have HR:=zH hR
 clear hR hf2
 obtain⟨W2,hmk,nw2,vc2⟩:=makeN w1 n2 (by omega) .u64
 have NW2:=zH nw2
 have VC2:=zH vc2
 clear nw2 vc2
 go_wp2_with fail
 refine C1.out.mono ?_
 rintro z w' ⟨rfl,rfl⟩
 go_wp2_with fail
 refine C2.out.mono ?_
 rintro z w' ⟨rfl,rfl⟩
 clear C1 C2 k1 HP
 go_wp2_with fail
 refine columns_ok.mono ?_
 rintro z w3 ⟨rfl,n3⟩
 have N3:=zH n3
 clear n3
 unfold putFs pickFs
 obtain⟨Rc,hRc⟩:=zN (colsR u cols (List.replicate n2 Ev.zero) x2)
 rw[hRc]at HR
 have HRC:=zH hRc
 clear hRc
 go_wp2
 go_loopw [10,65] (fun av cv wr=>∃(c:Nat) (at1:Int) (es1:List Ev),c≤5∧av=.int .i64 at1∧cv=.int .i64 c∧in64 at1∧es1.length=n2∧colsR u (cols.drop c) es1 at1=Rc ∧
  Vec 5 wr (.slice (some ⟨w1.heap.size,0,none⟩) n2 n2) n2 (es1.flatMap evV)∧Nw w1 wr) (fun _ cv _=>5-(intOf cv).toNat)
 case atStart =>
  exact⟨0,x2,_,by omega,rfl,rfl,⟨by omega,by omega⟩,by simp,HRC.out,VC2.out.nw (N3.out.trans (((Nw.refl w3).alloc _).alloc _)),NW2.out.trans (N3.out.trans (((Nw.refl w3).alloc _).alloc _))⟩
 case round =>
  obtain⟨c,at1,es1,hc,rfl,rfl,hat,hesl,hr1,hv1,hw1⟩:=hrel
  clear NW2 VC2 N3 HRC hmk
  have HRr:=zH hr1
  have HVr:=zH hv1
  have HWr:=zH hw1
  have hgge:=Nat.le_refl w1.heap.size
  clear hr1 hv1 hw1
  by_cases hlt:c<5
  case pos =>
   have h5:c=0∨c=1∨c=2∨c=3∨c=4:=by omega
   clear hc hlt
   rcases h5 with rfl|rfl|rfl|rfl|rfl
   ·have hix:=idx_put0 wr
    have C:=column_ok HB.out HWr.out hat (o:=0) hesl (by omega) hgge HVr.out putOk0
    have hun:=HRr.out
    simp only[cols,List.drop]at hun
    unfold colsR at hun
    rw[hesl]at hun
    obtain⟨R1,hR1⟩:=zN (colR u okAny n2 true 0 0 at1 [])
    rw[hR1]at hun C
    have C:=zH C
    have HUN:=zH hun
    clear hun hR1
    go_wp2_with fail
    refine C.out.mono ?_
    rintro z w5 ⟨n5,⟨rfl,rfl⟩|⟨vs,x5,rfl,rfl,v5,vl,hx5⟩⟩
    ·have hR:=HR.out
     have hun:=HUN.out
     simp only at hun
     rw[←hun]at hR
     simp only at hR
     go_wp2
     refine bodyPost_ret (v:=.tuple #[.int .i64 0,.slice none 0 0,.int .i64 10]) (by simp[results,Tryz.results143,go_sem]) rfl (UnpP.none hR.symm (HN1.out.trans n5))
    ·have hun:=HUN.out
     simp only at hun
     have V5:=zH v5
     have N5:=zH n5
     clear v5 n5 HUN C
     go_wp2
     go_roundw
     case rel=>exact⟨1,x5,List.zipWith setT es1 vs,by omega,rfl,rfl,hx5,by rw[List.length_zipWith];omega,hun,V5.out,N5.out⟩
     case measure=>simp[intOf]
   ·have hix:=idx_put1 wr
    have C:=column_ok HB.out HWr.out hat (o:=0) hesl (by omega) hgge HVr.out putOk1
    have hun:=HRr.out
    simp only[cols,List.drop]at hun
    unfold colsR at hun
    rw[hesl]at hun
    obtain⟨R1,hR1⟩:=zN (colR u okOp n2 true 0 0 at1 [])
    rw[hR1]at hun C
    have C:=zH C
    have HUN:=zH hun
    clear hun hR1
    go_wp2_with fail
    refine C.out.mono ?_
    rintro z w5 ⟨n5,⟨rfl,rfl⟩|⟨vs,x5,rfl,rfl,v5,vl,hx5⟩⟩
    ·have hR:=HR.out
     have hun:=HUN.out
     simp only at hun
     rw[←hun]at hR
     simp only at hR
     go_wp2
     refine bodyPost_ret (v:=.tuple #[.int .i64 0,.slice none 0 0,.int .i64 10]) (by simp[results,Tryz.results143,go_sem]) rfl (UnpP.none hR.symm (HN1.out.trans n5))
    ·have hun:=HUN.out
     simp only at hun
     have V5:=zH v5
     have N5:=zH n5
     clear v5 n5 HUN C
     go_wp2
     go_roundw
     case rel=>exact⟨2,x5,List.zipWith setOp es1 vs,by omega,rfl,rfl,hx5,by rw[List.length_zipWith];omega,hun,V5.out,N5.out⟩
     case measure=>simp[intOf]
   ·have hix:=idx_put2 wr
    have C:=column_ok HB.out HWr.out hat (o:=0) hesl (by omega) hgge HVr.out putOk2
    have hun:=HRr.out
    simp only[cols,List.drop]at hun
    unfold colsR at hun
    rw[hesl]at hun
    obtain⟨R1,hR1⟩:=zN (colR u okAny n2 true 0 0 at1 [])
    rw[hR1]at hun C
    have C:=zH C
    have HUN:=zH hun
    clear hun hR1
    go_wp2_with fail
    refine C.out.mono ?_
    rintro z w5 ⟨n5,⟨rfl,rfl⟩|⟨vs,x5,rfl,rfl,v5,vl,hx5⟩⟩
    ·have hR:=HR.out
     have hun:=HUN.out
     simp only at hun
     rw[←hun]at hR
     simp only at hR
     go_wp2
     refine bodyPost_ret (v:=.tuple #[.int .i64 0,.slice none 0 0,.int .i64 10]) (by simp[results,Tryz.results143,go_sem]) rfl (UnpP.none hR.symm (HN1.out.trans n5))
    ·have hun:=HUN.out
     simp only at hun
     have V5:=zH v5
     have N5:=zH n5
     clear v5 n5 HUN C
     go_wp2
     go_roundw
     case rel=>exact⟨3,x5,List.zipWith setObj es1 vs,by omega,rfl,rfl,hx5,by rw[List.length_zipWith];omega,hun,V5.out,N5.out⟩
     case measure=>simp[intOf]
   ·have hix:=idx_put3 wr
    have C:=column_ok HB.out HWr.out hat (o:=0) hesl (by omega) hgge HVr.out putOk3
    have hun:=HRr.out
    simp only[cols,List.drop]at hun
    unfold colsR at hun
    rw[hesl]at hun
    obtain⟨R1,hR1⟩:=zN (colR u okAny n2 true 0 0 at1 [])
    rw[hR1]at hun C
    have C:=zH C
    have HUN:=zH hun
    clear hun hR1
    go_wp2_with fail
    refine C.out.mono ?_
    rintro z w5 ⟨n5,⟨rfl,rfl⟩|⟨vs,x5,rfl,rfl,v5,vl,hx5⟩⟩
    ·have hR:=HR.out
     have hun:=HUN.out
     simp only at hun
     rw[←hun]at hR
     simp only at hR
     go_wp2
     refine bodyPost_ret (v:=.tuple #[.int .i64 0,.slice none 0 0,.int .i64 10]) (by simp[results,Tryz.results143,go_sem]) rfl (UnpP.none hR.symm (HN1.out.trans n5))
    ·have hun:=HUN.out
     simp only at hun
     have V5:=zH v5
     have N5:=zH n5
     clear v5 n5 HUN C
     go_wp2
     go_roundw
     case rel=>exact⟨4,x5,List.zipWith setA es1 vs,by omega,rfl,rfl,hx5,by rw[List.length_zipWith];omega,hun,V5.out,N5.out⟩
     case measure=>simp[intOf]
   ·have hix:=idx_put4 wr
    have C:=column_ok HB.out HWr.out hat (o:=0) hesl (by omega) hgge HVr.out putOk4
    have hun:=HRr.out
    simp only[cols,List.drop]at hun
    unfold colsR at hun
    rw[hesl]at hun
    obtain⟨R1,hR1⟩:=zN (colR u okAny n2 true 0 0 at1 [])
    rw[hR1]at hun C
    have C:=zH C
    have HUN:=zH hun
    clear hun hR1
    go_wp2_with fail
    refine C.out.mono ?_
    rintro z w5 ⟨n5,⟨rfl,rfl⟩|⟨vs,x5,rfl,rfl,v5,vl,hx5⟩⟩
    ·have hR:=HR.out
     have hun:=HUN.out
     simp only at hun
     rw[←hun]at hR
     simp only at hR
     go_wp2
     refine bodyPost_ret (v:=.tuple #[.int .i64 0,.slice none 0 0,.int .i64 10]) (by simp[results,Tryz.results143,go_sem]) rfl (UnpP.none hR.symm (HN1.out.trans n5))
    ·have hun:=HUN.out
     simp only at hun
     have V5:=zH v5
     have N5:=zH n5
     clear v5 n5 HUN C
     go_wp2
     go_roundw
     case rel=>exact⟨5,x5,List.zipWith setB es1 vs,by omega,rfl,rfl,hx5,by rw[List.length_zipWith];omega,hun,V5.out,N5.out⟩
     case measure=>simp[intOf]
  obtain rfl:c=5:=by omega
  have hr:=HRr.out
  simp only[cols,List.drop]at hr
  unfold colsR at hr
  have hR:=HR.out
  rw[←hr]at hR
  simp only at hR
  clear HR hr HRr
  by_cases c6:at1<u.length
  case pos =>
   have q6:decide (at1<(u.length:Int))=true:=by simpa using c6
   rw[if_pos c6]at hR
   go_wp2
   refine bodyPost_ret (v:=.tuple #[.int .i64 0,.slice none 0 0,.int .i64 10]) (by simp[results,Tryz.results143,go_sem]) rfl (UnpP.none hR.symm (HN1.out.trans HWr.out))
  have q6:decide (at1<(u.length:Int))=false:=by simpa using c6
  rw[if_neg c6]at hR
  have hwf:IntKind.i64.wrap (n1:Int)=(n1:Int):=IntWalk.i64_in _ (by omega)
  go_wp2
  refine bodyPost_ret (v:=.tuple #[.int .i64 n1,.slice (some ⟨w1.heap.size,0,none⟩) n2 n2,.int .i64 0]) (by simp[results,Tryz.results143,go_sem]) rfl ?_
  rw[←hR]
  exact⟨_,rfl,by simp only;rw[hesl];exact HVr.out,HN1.out.trans HWr.out,fun g hg=>by cases hg;exact HN1.out.size⟩
theorem den_unpack:DenOk unpackB:=⟨fun W v b hv hb=>(Unpack_ok hv hb).mono fun _ _ h=>h,fun b=>by have:=unpack_len b;omega⟩
set_option maxHeartbeats 800000
def Names (w:World) (m:Nat) (S:List Str):Prop:=∃L clock,w.heap[m]? = some (.map (ents L) clock)∧(∀e∈L,e.val=.int .i64 1)∧∀k,k∈L.map En.key↔k∈S
theorem Names.nw {w w':World}{m:Nat}{S:List Str}(h:Names w m S) (hw:Nw w w'):Names w' m S:=by
 obtain⟨L,c,h1,h2⟩:=h
 exact⟨L,c,hw.at_ h1,h2⟩
theorem names_put {w W1:World}{m:Nat}{S:List Str}(h:Names W1 m S) (k:Str) (hw:Nw w W1) (hm:w.heap.size≤m) :
  ∃W2:World,(Instr.mapUpdate 109 (.map (some m)) (.string ⟨k.toArray⟩) (.int .i64 1)).run Tryz.prog W1=.ok () W2∧Nw w W2∧Only (fun j=>j=m) W1 W2∧Names W2 m (k::S):=by
 obtain⟨L,clock,hmap,hv,hk⟩:=h
 have ht:=Tryz.underlying109
 have hs:=Tryz.underlying9
 rcases split_key k L with hn|⟨A,e,B,rfl,he,hA⟩
 ·refine⟨_,run_store_miss ht hs hmap hn _,Only.setBlk hw (fun h=>by omega) _,Only.setBlk (S:=fun j=>j=m) (Only.refl W1) (fun _=>rfl) _,_,_,setBlk_same hmap,?_,fun x=>?_⟩
  ·intro e he
   rcases List.mem_append.1 he with he|he
   ·exact hv e he
   ·rw[List.mem_singleton]at he;subst he;rfl
  ·simp only[List.map_append,List.mem_append,hk x,List.map_cons,List.map_nil,List.mem_cons,List.not_mem_nil,or_false]
   exact or_comm
 ·refine⟨_,run_store_hit ht hs hmap he hA _,Only.setBlk hw (fun h=>by omega) _,Only.setBlk (S:=fun j=>j=m) (Only.refl W1) (fun _=>rfl) _,_,_,setBlk_same hmap,?_,fun x=>?_⟩
  ·intro e2 he2
   rcases List.mem_append.1 he2 with h|h
   ·exact hv e2 (by simp[h])
   ·rcases List.mem_cons.1 h with rfl|h
    ·rfl
    ·exact hv e2 (by simp[h])
  ·have h1:=hk x
   simp only[List.map_append,List.map_cons,List.mem_append,List.mem_cons]at h1 ⊢
   rw[he]at h1
   constructor
   ·intro h2
    rcases h2 with h2|h2|h2
    ·exact .inr (h1.1 (.inl h2))
    ·exact .inl h2
    ·exact .inr (h1.1 (.inr (.inr h2)))
   ·rintro (h2|h2)
    ·exact .inr (.inl h2)
    ·exact h1.2 h2
theorem names_get {w:World}{m:Nat}{S:List Str}(h:Names w m S){k:Str}(hk:k∈S):(Instr.lookup 109 (.map (some m)) (.string ⟨k.toArray⟩) false).run Tryz.prog w=.ok (.int .i64 1) w:=by
 obtain⟨L,clock,hmap,hv,hkk⟩:=h
 have ht:=Tryz.underlying109
 have hs:=Tryz.underlying9
 rcases split_key k L with hn|⟨A,e,B,rfl,he,hA⟩
 ·exact absurd ((hkk k).2 hk) hn
 ·rw[run_look_hit ht hs hmap he hA,hv e (by simp)]
set_option maxHeartbeats 1600000
theorem names_none {w:World}{m:Nat}{S:List Str}(h:Names w m S){k:Str}(hk:k∉S):(Instr.lookup 109 (.map (some m)) (.string ⟨k.toArray⟩) false).run Tryz.prog w=.ok (.int .i64 0) w:=by
 obtain⟨L,clock,hmap,hv,hkk⟩:=h
 have ht:=Tryz.underlying109
 have hs:=Tryz.underlying9
 exact run_look_miss ht hs (by kernel_rfl) hmap (fun hc=>hk ((hkk k).1 hc))
theorem Names.kept {Y:Nat→Prop}{w w':World}{m:Nat}{S:List Str}(h:Names w m S) (hk:Kept Y w w') (hm:Y m):Names w' m S:=by
 obtain⟨l,c,h1,h2⟩:=h
 exact⟨l,c,(hk.2 m hm (lt_of_block h1)).trans h1,h2⟩
theorem Names.lt {w:World}{m:Nat}{S:List Str}(h:Names w m S):m<w.heap.size:=by
 obtain⟨l,c,h1,h2⟩:=h
 exact lt_of_block h1
section
variable {X Y:Nat→Prop}{w0 w w':World}{b:Nat}{d d':Dsk}{U:List UInt8→Int×List Ev×Int}
structure MendTo (X:Nat→Prop) (w0 w w':World) (b:Nat) (d':Dsk) (v p:Value) (es:List Ev) (ps:List Pc):Prop where
 disk:HasX (fun k=>X k∨v.ownBlock=some k∨p.ownBlock=some k) w0 w' b d'
 kept:Kept X w w'
 evs:Vec 5 w' v es.length (es.flatMap evV)
 pcs:Vec 4 w' p ps.length (ps.flatMap pcV)
 ok:∀q∈ps,q.Ok
 e0:∀g,v.ownBlock=some g→w.heap.size≤g
 p0:∀g,p.ownBlock=some g→w.heap.size≤g
theorem MendTo.nil (h:HasX X w0 w' b d') (hk:Kept X w w'):MendTo X w0 w w' b d' (.slice none 0 0) (.slice none 0 0) [] []:=
 ⟨h.weak (fun k hk=>by rcases hk with h|h|h;exact h;cases h;cases h),hk,Vec.nil,Vec.nil,(fun q hq=>by cases hq),(fun g hg=>by cases hg),fun g hg=>by cases hg⟩
theorem Mend_ok (h:HasX X w0 w b d) (hU:DenFor U d){es:List Ev}{ps:List Pc}{x:Int}(hr:mendD U d=⟨d',es,ps,x⟩) :
  Calls Tryz.prog 15 #[.pointer (some ⟨b,0,none⟩)] w fun z w'=>∃v p,z=.returned (.tuple #[v,p,.int .i64 x])∧MendTo X w0 w w' b d' v p es ps:=by
 obtain⟨⟨es1,ps1,gd,x1⟩,hs⟩:=zN (scanD U d)
 have HSC:=zH (scan_ok h hU hs)
 have H:=zH h
 unfold mendD at hr
 rw[hs]at hr
 unfold mendWith at hr
 simp only at hr
 have hmm:=@run_makeMap Tryz.prog
 have hps0:x1=0→ps1.length≤1000:=fun hx=>by
  subst hx
  have:ps1=[]∨rightL ps1=true:=by
   unfold scanD at hs
   repeat' split at hs
   ·simp only[ScanR.mk.injEq]at hs;exact .inl hs.2.1.symm
   ·simp only[ScanR.mk.injEq]at hs;exact .inl hs.2.1.symm
   ·simp only[ScanR.mk.injEq]at hs;exact .inl hs.2.1.symm
   ·simp only[ScanR.mk.injEq]at hs;exact .inl hs.2.1.symm
   ·rename_i h1 h2
    simp only[ScanR.mk.injEq]at hs
    refine .inr ?_
    rw[←hs.2.1]
    exact listedB_right (by rcases Decidable.em ((listedB (d.read manifestS).1).2=0) with h|h;exact h;exact absurd h h1)
  rcases this with rfl|hR
  ·simp
  ·have:=(rightL_bound hR).2.1;omega
 clear h hU hs
 by_cases c1:x1=0
 case neg =>
  have q1:(x1 !=0)=true:=by simpa using c1
  rw[if_pos c1]at hr
  obtain⟨rfl,rfl,rfl,rfl⟩:d=d'∧[]=es∧[]=ps∧x1=x:=by simpa using hr
  clear hr hmm
  go_enter Tryz.func15,Tryz.ntmps15
  go_wp2_with fail
  refine HSC.out.mono ?_
  rintro z w1 ⟨v,p,rfl,o1,o2⟩
  have N1:=zH o1.2.1
  clear o1 o2
  go_wp2
  refine bodyPost_ret (v:=.tuple #[.slice none 0 0,.slice none 0 0,.int .i64 x1]) (by simp[results,Tryz.results15,go_sem]) rfl ⟨_,_,rfl,MendTo.nil (H.out.nw N1.out) N1.out.kept⟩
 subst c1
 rw[if_neg (by simp)]at hr
 have hps:=hps0 rfl
 obtain⟨np,hnp⟩:=zN (ps1.length)
 obtain⟨ne,hne⟩:=zN (es1.length)
 rw[hnp]at hps
 have HNP:=zH hnp
 have HNE:=zH hne
 have HRR:=zH hr
 clear hr hps0 hnp hne
 go_enter Tryz.func15,Tryz.ntmps15
 go_wp2_with fail
 refine HSC.out.mono ?_
 rintro z w4 ⟨v,p,rfl,o1,o2⟩
 have o1l:=o1.1.len
 have o2l:=o2.1.len
 rw[HNE.out]at o1l
 rw[HNP.out]at o2l
 obtain⟨va,vc,rfl,-⟩:=o1l
 obtain⟨pa,pc,rfl,-⟩:=o2l
 have OE:=zH o1
 have OP:=zH o2
 have N1:=zH o1.2.1
 have L1:=zH (And.intro o1.1.lt o2.1.lt)
 clear o1 o2 HSC
 have F4:Names (w4.alloc (.map #[] 0)) w4.heap.size []:=⟨[],0,heap_alloc_new w4 _,(fun e he=>by cases he),fun k=>by simp⟩
 obtain⟨w5,hput,nw5,on5,nm5⟩:=names_put (w:=w4) F4 manifestS ((Nw.refl w4).alloc _) (Nat.le_refl _)
 have hput:(Instr.mapUpdate 109 (.map (some w4.heap.size)) (.string ⟨#[109,97,110,105,102,101,115,116]⟩) (.int .i64 1)).run Tryz.prog (w4.alloc (.map #[] 0))=.ok () w5:=hput
 obtain⟨m,hm⟩:=zN (w4.heap.size)
 rw[hm]at hput nm5
 obtain⟨Y0,hY0⟩:∃Y:Nat→Prop,Y=fun k=>X k∨(Value.slice va ne vc).ownBlock=some k∨(Value.slice pa np pc).ownBlock=some k∨k=m:=⟨_,rfl⟩
 have hml:=nm5.lt
 have N5:=zH (N1.out.trans nw5)
 have HYN:Hid (∀W,Nw w W→W.heap.size ≥ w5.heap.size→HasX Y0 w0 W b d):=zH (fun W hW hsz=>H.out.nwY hW fun k hk=>by
  rw[hY0]at hk
  rcases hk with hk|hk|hk|hk
  ·exact .inl hk
  ·exact .inr ⟨OE.out.2.2 k hk,by have:=L1.out.1 k hk;have:=nw5.size;omega⟩
  ·exact .inr ⟨OP.out.2.2.2 k hk,by have:=L1.out.2 k hk;have:=nw5.size;omega⟩
  ·subst hk;have:=N1.out.size;exact .inr ⟨by omega,by omega⟩)
 have VE5:=zH (OE.out.1.nw nw5)
 have VP5:=zH (OP.out.1.nw nw5)
 have NM5:=zH nm5
 have HWM:Hid (w.heap.size≤m):=zH (by have h1:=N1.out.size;omega)
 have HY:Hid ((∀k,X k→Y0 k)∧(∀g,(Value.slice va ne vc).ownBlock=some g→Y0 g)∧(∀g,(Value.slice pa np pc).ownBlock=some g→Y0 g)∧Y0 m):=zH (by rw[hY0];exact⟨fun k h=>.inl h,fun g h=>.inr (.inl h),fun g h=>.inr (.inr (.inl h)),.inr (.inr (.inr rfl))⟩)
 have HNM:Hid ((∀g,(Value.slice va ne vc).ownBlock=some g→¬ g=m)∧(∀g,(Value.slice pa np pc).ownBlock=some g→¬ g=m)):=zH ⟨fun g hg e=>by have:=L1.out.1 g hg;omega,fun g hg e=>by have:=L1.out.2 g hg;omega⟩
 have HY0:=zH hY0
 have HS5:Hid (Nw w w5):=N5
 clear F4 nw5 on5 nm5 hY0 hml
 go_upto_region 5 with fail
 clear hput hmm hm
 go_wp2
 go_loopw [31] (fun i wr=>∃j:Nat,j≤np∧i=.int .i64 j∧Nw w wr∧w5.heap.size≤wr.heap.size∧Vec 5 wr (.slice va ne vc) ne (es1.flatMap evV)∧Vec 4 wr (.slice pa np pc) np (ps1.flatMap pcV)∧∃S,Names wr m S∧∀k,k∈S↔k=manifestS∨k∈(ps1.take j).map Pc.name) (fun i _=>np-(intOf i).toNat)
 case atStart=>exact⟨0,by omega,rfl,HS5.out,Nat.le_refl _,by have:=VE5.out;rwa [HNE.out]at this,by have:=VP5.out;rwa [HNP.out]at this,_,NM5.out,fun k=>by simp⟩
 case round =>
  obtain⟨j,hj,rfl,hN,hsz,hVE,hVP,S,hS,hin⟩:=hrel
  have HN:=zH hN
  have HSZ:=zH hsz
  have VE:=zH hVE
  have VP:=zH hVP
  have HS:=zH hS
  have HIN:=zH hin
  clear hN hsz hVE hVP hS hin VE5 VP5 NM5
  have PCS:Hid (Pcs wr (.slice pa np pc) ps1):=zH ⟨by rw[HNP.out];exact VP.out.src,OP.out.2.1⟩
  by_cases h1:j<np
  case pos =>
   obtain⟨g,o,hpe,hg,x0,x1,x2,x3⟩:=pcs_at PCS.out HNP.out h1
   subst hpe
   obtain⟨q,hq⟩:=zN (ps1[j]'(by rw[HNP.out];exact h1))
   rw[hq]at x0 x1 x2 x3
   have na:=(Nw.refl wr).alloc (.cells #[.string ⟨q.name.toArray⟩,.int .i64 q.first,.int .i64 q.count,.bool q.dense] 98)
   have hB:=heap_alloc_new wr (.cells #[.string ⟨q.name.toArray⟩,.int .i64 q.first,.int .i64 q.count,.bool q.dense] 98)
   have y0:=cell_of hB (i:=0) rfl
   have hml:=HS.out.lt
   obtain⟨W2,hput,nw2,on2,nm2⟩:=names_put (HS.out.nw na) q.name (HN.out.trans na) HWM.out
   have N7:=zH nw2
   have Z7:Hid (w5.heap.size≤W2.heap.size):=zH (Nat.le_trans HSZ.out (Nat.le_trans na.size on2.size))
   have E7:Hid (Vec 5 W2 (.slice va ne vc) ne (es1.flatMap evV)):=zH ((VE.out.nw na).keep on2.size fun g hg=>on2.block g ((VE.out.nw na).lt g hg) (HNM.out.1 g hg))
   have P7:Hid (Vec 4 W2 (.slice (some ⟨g,o,none⟩) np pc) np (ps1.flatMap pcV)):=zH ((VP.out.nw na).keep on2.size fun g hg=>on2.block g ((VP.out.nw na).lt g hg) (HNM.out.2 g hg))
   have NM7:=zH nm2
   have HIN7:Hid (∀k,k∈q.name::S↔k=manifestS∨k∈(ps1.take (j+1)).map Pc.name):=zH (fun k=>by
    rw[List.take_succ_eq_append_getElem (by rw[HNP.out];exact h1),hq,List.map_append,List.mem_append,List.mem_cons,HIN.out k]
    simp only[List.map_cons,List.map_nil,List.mem_singleton]
    constructor
    ·rintro (h|h|h)
     ·exact .inr (.inr h)
     ·exact .inl h
     ·exact .inr (.inl h)
    ·rintro (h|h|h)
     ·exact .inr (.inl h)
     ·exact .inr (.inr h)
     ·exact .inl h)
   clear nw2 on2 nm2 hq na hB
   go_wp2_with fail
   go_roundw
   case rel=>exact⟨j+1,by omega,by go_num,N7.out,Z7.out,E7.out,P7.out,_,NM7.out,HIN7.out⟩
   case measure=>simp[intOf];omega
  obtain rfl:j=np:=by omega
  have H5:=zH (HYN.out wr HN.out HSZ.out)
  have HINS:Hid (∀k,k∈S↔k∈staysOf ps1):=zH (fun k=>by
   rw[HIN.out k,List.take_of_length_le (by rw[HNP.out];exact Nat.le_refl _)]
   simp[staysOf])
  obtain⟨⟨d2,cx⟩,hcu⟩:=zN (cutD d ps1 gd)
  have rr:=HRR.out
  rw[hcu]at rr
  simp only at rr
  have HR2:=zH rr
  obtain⟨sz,hsz⟩:=zN ((fileOf d.files (lastP ps1).name).bytes.length)
  unfold cutD at hcu
  rw[hsz]at hcu
  have HSIZE:=zH hsz
  clear rr hsz HIN HYN HRR
  by_cases c2:cx=0
  case neg =>
   have q1:(cx !=0)=true:=by simpa using c2
   by_cases hg:ps1≠[]∧gd<(sz:Int)
   case neg =>
    rw[if_neg hg]at hcu
    simp only[Prod.mk.injEq]at hcu
    exact absurd hcu.2.symm c2
   rw[if_pos hg]at hcu
   have hg2:decide (gd<(sz:Int))=true:=by simpa using hg.2
   have hj0:j≠0:=fun e=>hg.1 (List.eq_nil_of_length_eq_zero (by rw[HNP.out,e]))
   have rr:=HR2.out
   rw[if_pos c2]at rr
   obtain⟨rfl,rfl,rfl,rfl⟩:d2=d'∧[]=es∧[]=ps∧cx=x:=by simpa using rr
   obtain⟨nq,rfl⟩:∃k,j=k+1:=⟨j-1,by omega⟩
   obtain⟨g,o,hpe,hgl,x0,x1⟩:=pcs_last PCS.out HNP.out
   subst hpe
   have hw2:((nq+1:Nat):Int)-1=(nq:Int):=by omega
   have hw1:IntKind.i64.wrap (((nq+1:Nat):Int)-1)=(nq:Int):=by rw[IntWalk.i64_in _ (by omega)];exact hw2
   have HCU:=zH hcu
   have hjp:decide ((0:Int)<((nq+1:Nat):Int))=true:=by first|(simp;done)|(simp;omega)
   clear rr hcu hg hj0
   go_wp2_with fail
   refine (H5.out.size _ HSIZE.out).mono ?_
   rintro e w6 ⟨rfl,n6⟩
   have H6:=zH (H5.out.nw n6)
   have N6:=zH (HN.out.trans n6)
   clear n6
   go_wp2_with fail
   refine (H6.out.cut _ gd HCU.out).mono ?_
   rintro e w7 ⟨rfl,h7,k7⟩
   have T7:=zH (MendTo.nil (h7.weak HY.out.1) (N6.out.kept.trans (k7.weak HY.out.1)))
   clear h7 k7
   go_wp2
   refine bodyPost_ret (v:=.tuple #[.slice none 0 0,.slice none 0 0,.int .i64 cx]) (by simp[results,Tryz.results15,go_sem]) rfl ⟨_,_,rfl,T7.out⟩
  subst c2
  have HCU:=zH hcu
  clear hcu
  go_upto_if 41 with fail
  go_cut [] (fun wx=>HasX Y0 w0 wx b d2∧Kept Y0 wr wx)
  case first =>
   by_cases h0:j=0
   case pos =>
    have hps0:ps1=[]:=List.eq_nil_of_length_eq_zero (by rw[HNP.out];exact h0)
    have hcu:=HCU.out
    rw[if_neg (fun h=>h.1 hps0)]at hcu
    simp only[Prod.mk.injEq,and_true]at hcu
    subst hcu
    subst h0
    go_wp2_with fail
    go_meet
    case rel=>exact⟨H5.out,Kept.refl _⟩
   obtain⟨nq,rfl⟩:∃k,j=k+1:=⟨j-1,by omega⟩
   have hne:ps1≠[]:=fun e=>by have:=HNP.out;rw[e]at this;simp at this
   obtain⟨g,o,hpe,hgl,x0,x1⟩:=pcs_last PCS.out HNP.out
   subst hpe
   have hw2:((nq+1:Nat):Int)-1=(nq:Int):=by omega
   have hw1:IntKind.i64.wrap (((nq+1:Nat):Int)-1)=(nq:Int):=by rw[IntWalk.i64_in _ (by omega)];exact hw2
   have hjp:decide ((0:Int)<((nq+1:Nat):Int))=true:=by first|(simp;done)|(simp;omega)
   go_wp2_with fail
   refine (H5.out.size _ HSIZE.out).mono ?_
   rintro e w6 ⟨rfl,n6⟩
   have H6:=zH (H5.out.nw n6)
   have K6:Hid (Kept Y0 wr w6):=zH n6.kept
   clear n6
   by_cases hg:gd<(sz:Int)
   case neg =>
    have hg2:decide (gd<(sz:Int))=false:=by simpa using hg
    have hcu:=HCU.out
    rw[if_neg (fun h=>hg h.2)]at hcu
    simp only[Prod.mk.injEq,and_true]at hcu
    subst hcu
    go_wp2_with fail
    go_meet
    case rel=>exact⟨H6.out,K6.out⟩
   have hg2:decide (gd<(sz:Int))=true:=by simpa using hg
   have hcu:=HCU.out
   rw[if_pos ⟨hne,hg⟩]at hcu
   have HC2:=zH hcu
   clear hcu
   go_wp2_with fail
   refine (H6.out.cut _ gd HC2.out).mono ?_
   rintro e w7 ⟨rfl,h7,k7⟩
   have T7:=zH (And.intro h7 (K6.out.trans k7))
   clear h7 k7
   go_wp2_with fail
   go_meet
   case rel=>exact T7.out
  case rest =>
   obtain⟨h6,k6⟩:=hcut
   have H6:=zH h6
   have K6:=zH k6
   have NM6:=zH (HS.out.kept k6 HY.out.2.2.2)
   have VE6:=zH (VE.out.kept k6 HY.out.2.1)
   have VP6:=zH (VP.out.kept k6 HY.out.2.2.1)
   obtain⟨dl,hdl⟩:=zN (d2.list)
   have HDL:=zH hdl
   obtain⟨nd,hnd⟩:=zN (dl.length)
   have HND:=zH hnd
   have hnd200:nd≤1000:=by
    have h1:=h6.ok.few
    rw[←hnd,←hdl]
    simp only[Dsk.list,List.length_mergeSort,namesF,List.length_map]
    omega
   obtain⟨R,hR⟩:=zN (rmAll (staysOf ps1) dl d2)
   have rr:=HR2.out
   rw[if_neg (by simp),hdl,hR]at rr
   have HR3:=zH rr
   have HRM:=zH hR
   clear h6 k6 hdl hnd hR rr HR2 HCU HS VE VP H5 HSZ PCS
   go_wp2_with fail
   refine (H6.out.list HDL.out).mono ?_
   rintro e w7 ⟨v7,rfl,s7,n7,f7⟩
   obtain⟨da,dc,rfl,-,-,-⟩:=s7.elems
   rw[HND.out]at s7 f7 ⊢
   have SS:=zH s7
   obtain⟨Y1,hY1⟩:∃Y:Nat→Prop,Y=fun k=>Y0 k∨(dl≠[]∧(Value.slice da nd dc).ownBlock=some k):=⟨_,rfl⟩
   have H7:Hid (HasX Y1 w0 w7 b d2):=zH (H6.out.nwY n7 fun k hk=>by
    rw[hY1]at hk
    rcases hk with hk|⟨hne,hk⟩
    ·exact .inl hk
    ·refine .inr ⟨f7 k hk,?_⟩
     rcases s7 with ⟨a,-,e⟩|⟨g',o',cap',e,-,-,hg',-⟩
     ·exact absurd e hne
     ·rw[e]at hk;cases hk;exact hg')
   have HY1:Hid ((∀k,Y0 k→Y1 k)∧(dl≠[]→∀g,(Value.slice da nd dc).ownBlock=some g→Y1 g)):=zH (by rw[hY1];exact⟨fun k h=>.inl h,fun h g hg=>.inr ⟨h,hg⟩⟩)
   have KW7:Hid (Kept X w w7):=zH (HN.out.kept.trans ((K6.out.weak HY.out.1).trans n7.kept))
   have VE7:=zH (VE6.out.nw n7)
   have VP7:=zH (VP6.out.nw n7)
   have NM7:=zH (NM6.out.nw n7)
   clear s7 f7 n7 hY1 H6 VE6 VP6 NM6
   go_wp2
   go_loopw [64] (fun i wq=>∃(k:Nat) (d3:Dsk),k≤nd∧i=.int .i64 k∧rmAll (staysOf ps1) (dl.drop k) d3=R∧HasX Y1 w0 wq b d3∧Kept Y1 w7 wq) (fun i _=>nd-(intOf i).toNat)
   case atStart=>exact⟨0,d2,by omega,rfl,HRM.out,H7.out,Kept.refl _⟩
   case round =>
    obtain⟨k,d3,hk,rfl,hrm,h8,k8⟩:=hrel
    have H8:=zH h8
    have K8:=zH k8
    have HRM3:=zH hrm
    clear h8 k8 hrm H7 HRM
    by_cases hlt:k<nd
    case neg =>
     have rr:=HRM3.out
     rw[List.drop_of_length_le (by rw[HND.out];omega)]at rr
     unfold rmAll at rr
     subst rr
     have r2:=HR3.out
     simp only at r2
     rw[if_neg (by simp)]at r2
     obtain⟨rfl,rfl,rfl,rfl⟩:d3=d'∧es1=es∧ps1=ps∧0=x:=by simpa using r2
     have T9:Hid (MendTo X w0 w wr b d3 (.slice va ne vc) (.slice pa j pc) es1 ps1):=zH (by
      have hl1:ne=es1.length:=HNE.out.symm
      have hl2:j=ps1.length:=HNP.out.symm
      refine⟨H8.out.weak fun k hk=>HY1.out.1 k (by rcases hk with h|h|h;exact HY.out.1 k h;exact HY.out.2.1 k h;exact HY.out.2.2.1 k h),KW7.out.trans (K8.out.weak fun k h=>HY1.out.1 k (HY.out.1 k h)),?_,?_,OP.out.2.1,OE.out.2.2,OP.out.2.2.2⟩
      ·rw[←hl1];exact VE7.out.kept (K8.out.weak HY1.out.1) HY.out.2.1
      ·rw[←hl2];exact VP7.out.kept (K8.out.weak HY1.out.1) HY.out.2.2.1)
     clear r2
     go_wp2
     refine bodyPost_ret (v:=.tuple #[.slice va ne vc,.slice pa j pc,.int .i64 0]) (by simp[results,Tryz.results15,go_sem]) rfl ⟨_,_,rfl,T9.out⟩
    have hkl:k<dl.length:=by rw[HND.out];exact hlt
    have S8:Hid (Ss wr (.slice da nd dc) dl):=zH (SS.out.kept K8.out HY1.out.2)
    obtain⟨ea,ec,he,-,-,hel⟩:=S8.out.elems
    obtain⟨g,o,hpe,hg,c0⟩:=hel k hkl
    simp only[Value.slice.injEq]at he
    have hda:=he.1.trans hpe
    subst hda
    have NM8:=zH (NM7.out.kept (K8.out.weak HY1.out.1) HY.out.2.2.2)
    have rr:=HRM3.out
    rw[List.drop_eq_getElem_cons hkl]at rr
    conv at rr=>lhs;unfold rmAll
    obtain⟨n,hn⟩:=zN (dl[k])
    rw[hn]at rr c0
    have c0:wr.cell? ⟨g,o+k,none⟩=some (.string ⟨n.toArray⟩):=c0
    clear he hpe hel hkl hn
    by_cases hst:n∈staysOf ps1
    case pos =>
     have hget:=names_get NM8.out ((HINS.out n).2 hst)
     rw[if_pos hst]at rr
     have HRM4:=zH rr
     clear rr HRM3
     go_wp2_with fail
     go_roundw
     case rel=>exact⟨k+1,d3,by omega,by go_num,HRM4.out,H8.out,K8.out⟩
     case measure=>simp[intOf];omega
    have hget:=names_none NM8.out (fun hc=>hst ((HINS.out n).1 hc))
    rw[if_neg hst]at rr
    obtain⟨⟨d4,x4⟩,hre⟩:=zN (d3.remove n)
    rw[hre]at rr
    simp only at rr
    have C:=zH (H8.out.remove n hre)
    have HRM4:=zH rr
    clear rr HRM3 hre
    go_wp2_with fail
    refine C.out.mono ?_
    rintro e w9 ⟨rfl,h9,k9⟩
    have H9:=zH h9
    have K9:=zH (K8.out.trans k9)
    clear h9 k9 C c0 hget
    by_cases hx4:x4=0
    case pos =>
     subst hx4
     have rr:=HRM4.out
     rw[if_neg (by simp)]at rr
     have HRM5:=zH rr
     clear rr HRM4
     go_wp2_with fail
     go_roundw
     case rel=>exact⟨k+1,d4,by omega,by go_num,HRM5.out,H9.out,K9.out⟩
     case measure=>simp[intOf];omega
    have q4:(x4 !=0)=true:=by simpa using hx4
    have rr:=HRM4.out
    rw[if_pos hx4]at rr
    subst rr
    have r2:=HR3.out
    simp only at r2
    rw[if_pos hx4]at r2
    obtain⟨rfl,rfl,rfl,rfl⟩:d4=d'∧[]=es∧[]=ps∧x4=x:=by simpa using r2
    have T9:Hid (MendTo X w0 w w9 b d4 (.slice none 0 0) (.slice none 0 0) [] []):=zH (by
     exact MendTo.nil (H9.out.weak fun k hk=>HY1.out.1 k (HY.out.1 k hk)) (KW7.out.trans (K9.out.weak fun k h=>HY1.out.1 k (HY.out.1 k h))))
    clear r2
    go_wp2
    refine bodyPost_ret (v:=.tuple #[.slice none 0 0,.slice none 0 0,.int .i64 x4]) (by simp[results,Tryz.results15,go_sem]) rfl ⟨_,_,rfl,T9.out⟩
end
section
variable {X Y:Nat→Prop}{w0 w w':World}{b:Nat}{d d':Dsk}
end
section
variable {X Y:Nat→Prop}{w0 w w':World}{b:Nat}{d d':Dsk}{U:List UInt8→Int×List Ev×Int}
theorem scanD_right:(scanD U d).ps=[]∨rightL (scanD U d).ps=true:=by
 unfold scanD
 repeat' split
 ·exact .inl rfl
 ·exact .inl rfl
 ·exact .inl rfl
 ·exact .inl rfl
 ·rename_i h1 h2
  exact .inr (listedB_right (by rcases Decidable.em ((listedB (d.read manifestS).1).2=0) with h|h;exact h;exact absurd h h1))
theorem pcsD_len (ok:d.Ok):∀(l:List Pc) (out:List Ev) (g:Int),(∀q∈l,q.dense=true→DenOk U)→(pcsD U d l out g).1.length≤out.length+16777216*l.length
 |[],out,g,_=>by simp[pcsD]
 |q::l,out,g,h=>by
  have h1:=pieceD_len' (h q (by simp)) ok (decide (l=[]))
  have h2:=pcsD_len ok l (out++(pieceD U d q (decide (l=[]))).1) (pieceD U d q (decide (l=[]))).2.1 fun q hq=>h q (by simp[hq])
  rw[pcsD_cons]
  split
  ·simp
  ·rw[List.length_append]at h2
   simp only[List.length_cons]
   omega
theorem scanD_len (ok:d.Ok) (hU:DenFor U d):(scanD U d).es.length≤16777216000:=by
 have key:(listedB (d.read manifestS).1).2=0→(pcsD U d (listedB (d.read manifestS).1).1 [] 0).1.length≤16777216000:=fun h=>by
  have h1:=pcsD_len ok (listedB (d.read manifestS).1).1 [] 0 (U:=U) (fun q hq hd=>by
   rcases hU with h|h
   ·exact h
   ·rw[h q hq]at hd;cases hd)
  have h2:=(rightL_bound (listedB_right h)).2.1
  simp only[List.length_nil]at h1
  omega
 unfold scanD
 repeat' split
 ·simp
 ·simp
 ·simp
 ·simp
 ·rename_i h1 h2
  exact key (by rcases Decidable.em ((listedB (d.read manifestS).1).2=0) with h|h;exact h;exact absurd h h1)
theorem mendD_of:((mendD U d).ps=[]∧(mendD U d).es=[])∨((mendD U d).ps=(scanD U d).ps∧(mendD U d).es=(scanD U d).es):=by
 unfold mendD mendWith
 repeat' split
 ·exact .inl ⟨rfl,rfl⟩
 ·exact .inl ⟨rfl,rfl⟩
 ·exact .inl ⟨rfl,rfl⟩
 ·exact .inr ⟨rfl,rfl⟩
theorem Open1_ok (h:HasX X w0 w b d){v p:Value}{l:List Pc}(hv:Pcs w p l) (hx:∀g,p.ownBlock=some g→X g){size:Int}(hs:64≤size∧size≤16777216) (hr:rightL l=true){n:Nat}(hn:n≤2305843009213693952)
  {a:Option Addr}{cap:Nat}(hva:v=.slice a n cap){c2 c3 c7 c8:Nat}(k2:w.cell? ⟨c2,0,none⟩=some (.pointer (some ⟨b,0,none⟩))) (k3:w.cell? ⟨c3,0,none⟩=some (.int .i64 size)) (k7:w.cell? ⟨c7,0,none⟩=some v) (k8:w.cell? ⟨c8,0,none⟩=some p) :
  Calls Tryz.prog 61 #[.pointer (some ⟨c2,0,none⟩),.pointer (some ⟨c3,0,none⟩),.pointer (some ⟨c8,0,none⟩),.pointer (some ⟨c7,0,none⟩)] w (Created X w0 w b (resumeD d size l n).1 (resumeD d size l n).2 (onLg d size l n)):=by
 have C:=Resume_ok h hv hx hs hr hn
 obtain⟨R,hR⟩:=zN (resumeD d size l n)
 rw[hR]at C ⊢
 have C:=zH C
 clear hR
 obtain⟨pa,pc,rfl,-,-,-⟩:=hv.elem
 subst hva
 have l2:=World.block_lt_of_cell? _ _ k2
 have l3:=World.block_lt_of_cell? _ _ k3
 have l7:=World.block_lt_of_cell? _ _ k7
 have l8:=World.block_lt_of_cell? _ _ k8
 simp only at l2 l3 l7 l8
 obtain⟨np,hnp⟩:=zN (l.length)
 rw[hnp]at C k8
 clear h hv hx hnp
 go_enter Tryz.func61,Tryz.ntmps61
 go_wp2_with fail
 refine C.out.mono ?_
 rintro e w1 ⟨kk,⟨hx,p',rfl,hl⟩|⟨hx,rfl,hd⟩⟩
 ·have T:=zH (And.intro kk (And.intro hx hl))
  clear kk hl hx
  go_wp2
  refine bodyPost_ret (v:=.tuple #[.pointer (some ⟨p',0,none⟩),.int .i64 0]) (by simp[results,Tryz.results61,go_sem]) rfl ⟨T.out.1,.inl ⟨T.out.2.1,p',rfl,T.out.2.2⟩⟩
 ·have T:=zH (And.intro kk (And.intro hx hd))
  clear kk hd hx
  go_wp2
  refine bodyPost_ret (v:=.tuple #[.pointer none,.int .i64 R.2]) (by simp[results,Tryz.results61,go_sem]) rfl ⟨T.out.1,.inr ⟨T.out.2.1,rfl,T.out.2.2⟩⟩
theorem Open2_ok (h:HasX X w0 w b d) (ht:Tab w0){size:Int}{c2 c3:Nat}(k2:w.cell? ⟨c2,0,none⟩=some (.pointer (some ⟨b,0,none⟩))) (k3:w.cell? ⟨c3,0,none⟩=some (.int .i64 size)) :
  Calls Tryz.prog 62 #[.pointer (some ⟨c2,0,none⟩),.pointer (some ⟨c3,0,none⟩)] w (Created X w0 w b (createD d size).1 (createD d size).2 (newLg size)):=by
 have C:=Create_ok h ht size
 obtain⟨R,hR⟩:=zN (createD d size)
 rw[hR]at C ⊢
 have C:=zH C
 clear hR
 have l2:=World.block_lt_of_cell? _ _ k2
 have l3:=World.block_lt_of_cell? _ _ k3
 simp only at l2 l3
 clear h
 go_enter Tryz.func62,Tryz.ntmps62
 go_wp2_with fail
 refine C.out.mono ?_
 rintro e w1 ⟨kk,⟨hx,p',rfl,hl⟩|⟨hx,rfl,hd⟩⟩
 ·have T:=zH (And.intro kk (And.intro hx hl))
  clear kk hl hx
  go_wp2
  refine bodyPost_ret (v:=.tuple #[.pointer (some ⟨p',0,none⟩),.int .i64 0]) (by simp[results,Tryz.results62,go_sem]) rfl ⟨T.out.1,.inl ⟨T.out.2.1,p',rfl,T.out.2.2⟩⟩
 ·have T:=zH (And.intro kk (And.intro hx hd))
  clear kk hd hx
  go_wp2
  refine bodyPost_ret (v:=.tuple #[.pointer none,.int .i64 R.2]) (by simp[results,Tryz.results62,go_sem]) rfl ⟨T.out.1,.inr ⟨T.out.2.1,rfl,T.out.2.2⟩⟩
def Opened (X:Nat→Prop) (w0 w:World) (b:Nat) (R:OpenR) (z:Ending) (w':World):Prop:=Kept X w w' ∧
 ((R.e=0∧∃p v,z=.returned (.tuple #[.pointer (some ⟨p,0,none⟩),v,.int .i64 0])∧HasL (fun k=>X k∨v.ownBlock=some k) w0 w' p b R.d R.L∧Vec 5 w' v R.es.length (R.es.flatMap evV)∧∀g,v.ownBlock=some g→w.heap.size≤g) ∨
  (R.e≠0∧z=.returned (.tuple #[.pointer none,.slice none 0 0,.int .i64 R.e])∧HasX X w0 w' b R.d))
theorem Open_ok (h:HasX X w0 w b d) (ht:Tab w0) (hU:DenFor U d) (size:Int):Calls Tryz.prog 17 #[.pointer (some ⟨b,0,none⟩),.int .i64 size] w (Opened X w0 w b (openD U d size)):=by
 have HT:=zH ht
 obtain⟨R,hR⟩:=zN (openD U d size)
 rw[hR]
 unfold openD at hR
 have n2:=((Nw.refl w).alloc (.cells #[.pointer (some ⟨b,0,none⟩)] 25)).alloc (.cells #[.int .i64 size] 3)
 have b2:((w.alloc (.cells #[.pointer (some ⟨b,0,none⟩)] 25)).alloc (.cells #[.int .i64 size] 3)).heap[w.heap.size]? = some (.cells #[.pointer (some ⟨b,0,none⟩)] 25 (0,0)):=(heap_alloc_old _ _ (by simp)).trans (heap_alloc_new w _)
 have b3:=heap_alloc_new (w.alloc (.cells #[.pointer (some ⟨b,0,none⟩)] 25)) (.cells #[.int .i64 size] 3)
 rw[World.size_alloc]at b3
 have hsz2:((w.alloc (.cells #[.pointer (some ⟨b,0,none⟩)] 25)).alloc (.cells #[.int .i64 size] 3)).heap.size=w.heap.size+1+1:=by simp
 have k2:=cell_of b2 (i:=0) rfl
 have k3:=cell_of b3 (i:=0) rfl
 by_cases hs:size<64∨16777216<size
 case pos =>
  rw[if_pos hs]at hR
  have H2:=zH (h.nw n2)
  have N2:=zH n2
  subst hR
  by_cases hs1:size<64
  ·have q1:decide (size<64)=true:=by simpa using hs1
   clear h hU n2 b2 b3 hs hs1
   go_enter Tryz.func17,Tryz.ntmps17
   go_wp2
   refine bodyPost_ret (v:=.tuple #[.pointer none,.slice none 0 0,.int .i64 2]) (by simp[results,Tryz.results17,go_sem]) rfl ⟨N2.out.kept,.inr ⟨by simp,rfl,H2.out⟩⟩
  ·have q1:decide (size<64)=false:=by simpa using hs1
   have q2:decide (16777216<size)=true:=by simp;omega
   clear h hU n2 b2 b3 hs hs1
   go_enter Tryz.func17,Tryz.ntmps17
   go_wp2
   refine bodyPost_ret (v:=.tuple #[.pointer none,.slice none 0 0,.int .i64 2]) (by simp[results,Tryz.results17,go_sem]) rfl ⟨N2.out.kept,.inr ⟨by simp,rfl,H2.out⟩⟩
 rw[if_neg hs]at hR
 have hsz:64≤size∧size≤16777216:=by omega
 have q1:decide (size<64)=false:=by simp;omega
 have q2:decide (16777216<size)=false:=by simp;omega
 obtain⟨⟨d4,es,ps,x4⟩,hm⟩:=zN (mendD U d)
 have hpr:ps=[]∨rightL ps=true:=by
  rcases mendD_of (U:=U) (d:=d) with ⟨h1,-⟩|⟨h1,-⟩
  ·rw[hm]at h1;exact .inl h1
  ·rw[hm]at h1
   simp only at h1
   rw[h1];exact scanD_right
 have hel:es.length≤2305843009213693952:=by
  have h2:=scanD_len h.ok hU
  rcases mendD_of (U:=U) (d:=d) with ⟨-,h1⟩|⟨-,h1⟩
  ·rw[hm]at h1;simp only at h1;rw[h1];simp
  ·rw[hm]at h1;simp only at h1;rw[h1];omega
 rw[hm]at hR
 simp only at hR
 obtain⟨X2,hX2⟩:∃Y:Nat→Prop,Y=fun k=>X k∨k=w.heap.size∨k=w.heap.size+1:=⟨_,rfl⟩
 have h2:HasX X2 w0 ((w.alloc (.cells #[.pointer (some ⟨b,0,none⟩)] 25)).alloc (.cells #[.int .i64 size] 3)) b d:=h.nwY n2 (fun k hk=>by
  rw[hsz2]
  rw[hX2]at hk
  rcases hk with hk|rfl|rfl
  ·exact .inl hk
  ·exact .inr ⟨Nat.le_refl _,by omega⟩
  ·exact .inr ⟨by omega,by omega⟩)
 have HM:=zH (Mend_ok h2 hU hm)
 have HX2:Hid ((∀k,X k→X2 k)∧X2 w.heap.size∧X2 (w.heap.size+1)):=zH (by rw[hX2];exact⟨fun k h=>.inl h,.inr (.inl rfl),.inr (.inr rfl)⟩)
 have N2:=zH n2
 have B2:=zH b2
 have B3:=zH b3
 have HSZ:=zH hsz
 have HPR:=zH hpr
 have HEL:=zH hel
 have HRR:=zH hR
 have HB:Hid (w0.heap.size≤w.heap.size):=zH h.base.size
 have HXL:Hid (∀k,X k→k<w.heap.size):=zH h.lt
 obtain⟨ne,hne⟩:=zN (es.length)
 obtain⟨np,hnp⟩:=zN (ps.length)
 have HNE:=zH hne
 have HNP:=zH hnp
 clear h hU n2 b2 b3 hs hsz hpr hel hR hm hne hnp h2 hX2 hsz2
 go_enter Tryz.func17,Tryz.ntmps17
 go_wp2_with fail
 refine HM.out.mono ?_
 rintro z w4 ⟨v,p,rfl,hT⟩
 have o1l:=hT.evs.len
 have o2l:=hT.pcs.len
 rw[HNE.out]at o1l
 rw[HNP.out]at o2l
 obtain⟨va,vc,rfl,-⟩:=o1l
 obtain⟨pa,pc,rfl,-⟩:=o2l
 have T:=zH hT
 clear hT HM k2 k3
 have n6:=((Nw.refl w4).alloc (.cells #[.slice va ne vc] 31)).alloc (.cells #[.slice pa np pc] 32)
 have b7:((w4.alloc (.cells #[.slice va ne vc] 31)).alloc (.cells #[.slice pa np pc] 32)).heap[w4.heap.size]? = some (.cells #[.slice va ne vc] 31 (0,0)):=(heap_alloc_old _ _ (by simp)).trans (heap_alloc_new w4 _)
 have b8:=heap_alloc_new (w4.alloc (.cells #[.slice va ne vc] 31)) (.cells #[.slice pa np pc] 32)
 rw[World.size_alloc]at b8
 have hsz6:((w4.alloc (.cells #[.slice va ne vc] 31)).alloc (.cells #[.slice pa np pc] 32)).heap.size=w4.heap.size+1+1:=by simp
 obtain⟨Y,hY⟩:∃Y:Nat→Prop,Y=fun k=>(X2 k∨(Value.slice va ne vc).ownBlock=some k∨(Value.slice pa np pc).ownBlock=some k)∨k=w4.heap.size∨k=w4.heap.size+1:=⟨_,rfl⟩
 have h6:HasX Y w0 ((w4.alloc (.cells #[.slice va ne vc] 31)).alloc (.cells #[.slice pa np pc] 32)) b d4:=T.out.disk.nwY n6 (fun k hk=>by
  rw[hsz6]
  rw[hY]at hk
  rcases hk with hk|rfl|rfl
  ·exact .inl hk
  ·exact .inr ⟨Nat.le_refl _,by omega⟩
  ·exact .inr ⟨by omega,by omega⟩)
 have k7:=cell_of b7 (i:=0) rfl
 have k8:=cell_of b8 (i:=0) rfl
 have k2:=cell_of ((n6.block _ (Nat.lt_of_lt_of_le (lt_of_block B2.out) T.out.kept.1) (fun hf=>hf)).trans ((T.out.kept.2 _ HX2.out.2.1 (lt_of_block B2.out)).trans B2.out)) (i:=0) rfl
 have k3:=cell_of ((n6.block _ (Nat.lt_of_lt_of_le (lt_of_block B3.out) T.out.kept.1) (fun hf=>hf)).trans ((T.out.kept.2 _ HX2.out.2.2 (lt_of_block B3.out)).trans B3.out)) (i:=0) rfl
 have HY:Hid ((∀k,X k→Y k)∧(∀g,(Value.slice va ne vc).ownBlock=some g→Y g)∧(∀g,(Value.slice pa np pc).ownBlock=some g→Y g)∧Y w4.heap.size):=zH (by rw[hY];exact⟨fun k h=>.inl (.inl (HX2.out.1 k h)),fun g h=>.inl (.inr (.inl h)),fun g h=>.inl (.inr (.inr h)),.inr (.inl rfl)⟩)
 have K6:Hid (Kept X w ((w4.alloc (.cells #[.slice va ne vc] 31)).alloc (.cells #[.slice pa np pc] 32))):=zH (N2.out.kept.trans ((T.out.kept.weak HX2.out.1).trans n6.kept))
 have V6:=zH (T.out.evs.nw n6)
 have P6:Hid (Pcs ((w4.alloc (.cells #[.slice va ne vc] 31)).alloc (.cells #[.slice pa np pc] 32)) (.slice pa np pc) ps):=zH ⟨by have:=(T.out.pcs.nw n6).src;exact this,T.out.ok⟩
 have HE0:Hid (∀g,(Value.slice va ne vc).ownBlock=some g→w.heap.size≤g):=zH (fun g hg=>by have h1:=T.out.e0 g hg;have h2:=N2.out.size;omega)
 have B7:=zH b7
 have H6:=zH h6
 clear n6 b7 b8 hsz6 hY h6 T
 by_cases c4:x4=0
 case neg =>
  have q4:(x4 !=0)=true:=by simpa using c4
  have rr:=HRR.out
  rw[if_pos c4]at rr
  subst rr
  have HC:=zH c4
  clear c4 k2 k3 k7 k8
  go_wp2
  refine bodyPost_ret (v:=.tuple #[.pointer none,.slice none 0 0,.int .i64 x4]) (by simp[results,Tryz.results17,go_sem]) rfl ⟨K6.out,.inr ⟨HC.out,rfl,H6.out.weak HY.out.1⟩⟩
 subst c4
 have rr:=HRR.out
 rw[if_neg (by simp)]at rr
 have HR2:=zH rr
 clear rr HRR
 by_cases hp:np=0
 case pos =>
  have hps:ps=[]:=List.eq_nil_of_length_eq_zero (by rw[HNP.out];exact hp)
  have rr:=HR2.out
  rw[if_pos hps]at rr
  have C:=Open2_ok H6.out HT.out k2 k3
  obtain⟨⟨d5,x5⟩,hcr⟩:=zN (createD d4 size)
  rw[hcr]at rr C
  simp only at rr
  have C:=zH C
  have HR3:=zH rr
  subst hp
  clear rr hcr HR2 hps
  go_wp2_with fail
  refine C.out.mono ?_
  rintro e w7 ⟨kk,⟨hx,p',rfl,hl⟩|⟨hx,rfl,hd⟩⟩
  ·subst hx
   have L7:=zH hl
   have K7:=zH kk
   have V7:=zH (V6.out.kept kk HY.out.2.1)
   have k9:=cell_of ((kk.2 _ HY.out.2.2.2 (lt_of_block B7.out)).trans B7.out) (i:=0) rfl
   have l9:=World.block_lt_of_cell? _ _ k9
   simp only at l9
   have rr:=HR3.out
   rw[if_neg (by simp)]at rr
   subst rr
   clear hl kk k2 k3 k7 k8 C
   go_upto_region 12 with fail
   go_region
   all_goals (try go_wp2)
   all_goals refine bodyPost_ret (v:=.tuple #[.pointer (some ⟨p',0,none⟩),.slice va ne vc,.int .i64 0]) (by simp[results,Tryz.results17,go_sem]) rfl ?_
   all_goals exact⟨K6.out.trans ((K7.out.weak HY.out.1).trans (Nw.refl _).drew.kept),.inl ⟨rfl,p',_,rfl,((L7.out.nw (Nw.refl _).drew).less (X:=Y) fun k hk=>hk.elim (HY.out.1 k) (HY.out.2.1 k)),V7.out.nw (Nw.refl _).drew,HE0.out⟩⟩
  ·have q5:(x5 !=0)=true:=by simpa using hx
   have H7:=zH hd
   have K7:=zH kk
   have HX5:=zH hx
   have rr:=HR3.out
   rw[if_pos hx]at rr
   subst rr
   clear hd kk hx k2 k3 k7 k8 C
   go_wp2
   refine bodyPost_ret (v:=.tuple #[.pointer none,.slice none 0 0,.int .i64 x5]) (by simp[results,Tryz.results17,go_sem]) rfl ⟨K6.out.trans (K7.out.weak HY.out.1),.inr ⟨HX5.out,rfl,H7.out.weak HY.out.1⟩⟩
 have hpne:ps≠[]:=fun e=>hp (by have:=HNP.out;rw[e]at this;simpa using this.symm)
 have hR:rightL ps=true:=by
  rcases HPR.out with h|h
  ·exact absurd h hpne
  ·exact h
 have hpq:((np:Int)==0)=false:=by simpa using hp
 have rr:=HR2.out
 rw[if_neg hpne]at rr
 have C:=Open1_ok H6.out P6.out HY.out.2.2.1 HSZ.out hR HEL.out (show Value.slice va ne vc=.slice va es.length vc by rw[HNE.out]) k2 k3 k7 k8
 obtain⟨⟨d5,x5⟩,hcr⟩:=zN (resumeD d4 size ps es.length)
 rw[hcr]at rr C
 simp only at rr
 have C:=zH C
 have HR3:=zH rr
 clear rr hcr HR2 hpne hR hp
 go_wp2_with fail
 refine C.out.mono ?_
 rintro e w7 ⟨kk,⟨hx,p',rfl,hl⟩|⟨hx,rfl,hd⟩⟩
 ·subst hx
  have L7:=zH hl
  have K7:=zH kk
  have V7:=zH (V6.out.kept kk HY.out.2.1)
  have k9:=cell_of ((kk.2 _ HY.out.2.2.2 (lt_of_block B7.out)).trans B7.out) (i:=0) rfl
  have l9:=World.block_lt_of_cell? _ _ k9
  simp only at l9
  have rr:=HR3.out
  rw[if_neg (by simp)]at rr
  subst rr
  clear hl kk k2 k3 k7 k8 C
  go_upto_region 12 with fail
  go_region
  all_goals (try go_wp2)
  all_goals refine bodyPost_ret (v:=.tuple #[.pointer (some ⟨p',0,none⟩),.slice va ne vc,.int .i64 0]) (by simp[results,Tryz.results17,go_sem]) rfl ?_
  all_goals exact⟨K6.out.trans ((K7.out.weak HY.out.1).trans (Nw.refl _).drew.kept),.inl ⟨rfl,p',_,rfl,((L7.out.nw (Nw.refl _).drew).less (X:=Y) fun k hk=>hk.elim (HY.out.1 k) (HY.out.2.1 k)),V7.out.nw (Nw.refl _).drew,HE0.out⟩⟩
 ·have q5:(x5 !=0)=true:=by simpa using hx
  have H7:=zH hd
  have K7:=zH kk
  have HX5:=zH hx
  have rr:=HR3.out
  rw[if_pos hx]at rr
  subst rr
  clear hd kk hx k2 k3 k7 k8 C
  go_wp2
  refine bodyPost_ret (v:=.tuple #[.pointer none,.slice none 0 0,.int .i64 x5]) (by simp[results,Tryz.results17,go_sem]) rfl ⟨K6.out.trans (K7.out.weak HY.out.1),.inr ⟨HX5.out,rfl,H7.out.weak HY.out.1⟩⟩
end
end Go.Proofs.YtkbenkldfehhlaaGreatDoor
