/-
  Texts merged by a program of this claim's: LogB, Mix, Stp, Piece, LogC.
-/
import Derived.Test.YtkbenkldfehhlaaGreatDoorM9
import Derived.Test.YtkbenkldfehhlaaGreatDoorM6
import Derived.Test.YtkbenkldfehhlaaGreatDoorM4
import Derived.WalkKit
namespace Go.Proofs.YtkbenkldfehhlaaGreatDoor
open Go Go.RowKit Go.Sort
set_option maxRecDepth 100000
set_option maxHeartbeats 1600000
def pcV (p:Pc):List Value:=[.string ⟨p.name.toArray⟩,.int .i64 p.first,.int .i64 p.count,.bool p.dense]
structure Pc.Ok (p:Pc):Prop where
 name:p.name.length≤9223372036854775807
 first:in64 p.first
 count:in64 p.count
structure Pcs (w:World) (v:Value) (l:List Pc):Prop where
 src:SrcV 4 w v l.length (l.flatMap pcV)
 ok:∀p∈l,p.Ok
theorem flat_pc:∀(l:List Pc) (i:Nat) (h:i<l.length) (j:Nat) (_hj:j<4),(l.flatMap pcV)[i*4+j]? = (pcV l[i])[j]?
 |e::l,0,_,j,hj=>by
  rw[List.flatMap_cons,Nat.zero_mul,Nat.zero_add,List.getElem?_append_left (by simpa [pcV] using hj)];rfl
 |e::l,i+1,h,j,hj=>by
  have ih:=flat_pc l i (by simpa using h) j hj
  rw[List.flatMap_cons,List.getElem?_append_right (by simp[pcV];omega),show (i+1)*4+j-(pcV e).length=i*4+j by simp[pcV];omega,ih]
  rfl
theorem Pcs.nw {w w':World}{v:Value}{l:List Pc}(h:Pcs w v l) (hw:Nw w w'):Pcs w' v l:=⟨h.src.nw hw,h.ok⟩
theorem Pcs.elem {w:World}{v:Value}{l:List Pc}(h:Pcs w v l):∃a cap,v=.slice a l.length cap∧l.length≤cap∧cap≤maxLen∧∀i (hi:i<l.length),∃g o,a=some ⟨g,o,none⟩∧g<w.heap.size ∧
  w.cell? ⟨g,o+i*4,none⟩=some (.string ⟨l[i].name.toArray⟩)∧w.cell? ⟨g,o+i*4+1,none⟩=some (.int .i64 l[i].first)∧w.cell? ⟨g,o+i*4+2,none⟩=some (.int .i64 l[i].count) ∧
  w.cell? ⟨g,o+i*4+3,none⟩=some (.bool l[i].dense):=by
 obtain⟨⟨h0,⟨a,rfl,hn⟩|⟨g,o,cap,rfl,h1,h2,h3,h4⟩⟩,-⟩:=h
 ·exact⟨a,0,by rw[hn],by simp[hn],by simp,fun i hi=>by omega⟩
 ·refine⟨_,cap,rfl,h1,h2,fun i hi=>⟨g,o,rfl,h3,?_⟩⟩
  have key:∀j (hj:j<4),w.cell? ⟨g,o+i*4+j,none⟩=(pcV l[i])[j]?:=fun j hj=>by
   have e:=flat_pc l i hi j hj
   have hlt:i*4+j<(l.flatMap pcV).length:=by rw[h0];omega
   have:=h4 (i*4+j) hlt
   rw[←Nat.add_assoc]at this
   rw[this,←e,List.getElem?_eq_getElem hlt]
  exact⟨key 0 (by omega),key 1 (by omega),key 2 (by omega),key 3 (by omega)⟩
structure Seen (w:World) (m:Nat) (names:List Str):Prop where
 map:∃L clock,w.heap[m]? = some (.map (ents L) clock)∧(L.map En.key)=names∧∀e∈L,e.val=.int .i64 1
theorem zeroInt (w:World):(zeroValue 3).run Tryz.prog w=.ok (.int .i64 0) w:=by kernel_rfl
theorem seen_step {w W1:World}{m bp:Nat}{names:List Str}{t:TypeId}{cs:Array Value}(h:Seen W1 m names) (_hd:names.Nodup) (n:Str) (hw:Nw w W1) (hm:w.heap.size≤m) (hb:W1.heap[bp]? = some (.cells cs t (0,0))) :
  ∃(x:Int) (W2:World),(Instr.lookup 109 (.map (some m)) (.string ⟨n.toArray⟩) false).run Tryz.prog W1=.ok (.int .i64 x) W1 ∧
   (Instr.mapUpdate 109 (.map (some m)) (.string ⟨n.toArray⟩) (.int .i64 (x+1))).run Tryz.prog W1=.ok () W2 ∧
   (∀W3,Nw W2 W3→(Instr.lookup 109 (.map (some m)) (.string ⟨n.toArray⟩) false).run Tryz.prog W3=.ok (.int .i64 (x+1)) W3) ∧
   Nw w W2∧W2.heap[bp]? = some (.cells cs t (0,0))∧((n∈names∧x=1)∨(n∉names∧x=0∧Seen W2 m (names++[n]))):=by
 obtain⟨L,clock,hmap,hk,hv⟩:=h.map
 have hbm:bp≠m:=fun e=>by subst e;rw[hmap]at hb;cases hb
 have ht:=Tryz.underlying109
 have hs:=Tryz.underlying9
 rcases split_key n L with hn|⟨A,e,B,rfl,he,hA⟩
 ·have hn':n∉names:=by rw[←hk];exact hn
  have hW2:(World.setBlk W1 m (.map (ents (L++[⟨n,.int .i64 (0+1),clock⟩])) (clock+1))).heap[m]? = some (.map (ents (L++[⟨n,.int .i64 (0+1),clock⟩])) (clock+1)):=setBlk_same hmap
  refine⟨0,_,run_look_miss ht hs (zeroInt _) hmap hn,run_store_miss ht hs hmap hn _,fun W3 h3=>?_,Only.setBlk hw (fun h=>by omega) _,by rw[setBlk_other hbm];exact hb,.inr ⟨hn',rfl,⟨_,_,hW2,?_,?_⟩⟩⟩
  ·exact run_look_hit (A:=L) (B:=[]) (e:=⟨n,.int .i64 (0+1),clock⟩) ht hs (h3.at_ hW2) rfl hn
  ·simp[hk]
  ·intro e he
   rcases List.mem_append.1 he with he|he
   ·exact hv e he
   ·rw[List.mem_singleton]at he;subst he;rfl
 ·have hn':n∈names:=by rw[←hk,←he];simp
  have h1:e.val=.int .i64 1:=hv e (by simp)
  have hl:=run_look_hit (P:=Tryz.prog) ht hs hmap he hA
  rw[h1]at hl
  have hW2:(World.setBlk W1 m (.map (ents (A++⟨n,.int .i64 (1+1),e.born⟩::B)) clock)).heap[m]? = some (.map (ents (A++⟨n,.int .i64 (1+1),e.born⟩::B)) clock):=setBlk_same hmap
  refine⟨1,_,hl,run_store_hit ht hs hmap he hA _,fun W3 h3=>?_,Only.setBlk hw (fun h=>by omega) _,by rw[setBlk_other hbm];exact hb,.inl ⟨hn',rfl⟩⟩
  exact run_look_hit (A:=A) (B:=B) (e:=⟨n,.int .i64 (1+1),e.born⟩) ht hs (h3.at_ hW2) rfl hA
theorem rightFrom_at {l:List Pc}{k:Nat}(h:k<l.length) (seen:List Str) (f:Int):rightFrom seen f (l.drop k) =
  (okPiece l[k].name && !decide (l[k].name∈seen) && decide (l[k].first=f) && (if k+1=l.length then decide (l[k].count=0) && !l[k].dense else decide (1≤l[k].count) && decide (l[k].count≤1099511627776)) && rightFrom (l[k].name::seen) (f+l[k].count) (l.drop (k+1))):=by
 rw[List.drop_eq_getElem_cons h]
 simp only[rightFrom]
 by_cases hk:k+1=l.length
 ·rw[if_pos (by rw[hk];simp),if_pos hk]
 ·rw[if_neg (by simp;omega),if_neg hk]
theorem Right_ok {w:World}{v:Value}{l:List Pc}(hv:Pcs w v l) :
  Calls Tryz.prog 80 #[v] w fun e w'=>e=.returned (.bool (rightL l))∧Nw w w':=by
 obtain⟨a,cap,rfl,hc,hm,hel⟩:=hv.elem
 have HE:=zH hel
 have HO:=zH hv.ok
 clear hel hv
 by_cases h1:l.length<1
 ·have r:Hid (rightL l=false):=zH (by unfold rightL;rw[decide_eq_false (by omega)];rfl)
  go_enter Tryz.func80,Tryz.ntmps80
  go_wp2
  go_ret
  exact⟨by rw[r.out];rfl,Nw.refl _⟩
 by_cases h2:100<l.length
 ·have r:Hid (rightL l=false):=zH (by unfold rightL;rw[decide_eq_false (show ¬ l.length≤100 by omega)];simp)
  go_enter Tryz.func80,Tryz.ntmps80
  go_wp2
  go_ret
  exact⟨by rw[r.out];rfl,Nw.refl _⟩
 have R:Hid (rightL l=rightFrom [] 0 l):=zH (by unfold rightL;rw[decide_eq_true (show 1≤l.length by omega),decide_eq_true (show l.length≤100 by omega)];rfl)
 obtain⟨n,hn⟩:=zN (l.length)
 have HN:=zH hn
 rw[hn]at h1 h2 hc ⊢
 clear hn
 have hmm:=@run_makeMap Tryz.prog
 go_enter Tryz.func80,Tryz.ntmps80
 go_wp2
 go_loopw [3,19] (fun f i wr=>∃(k:Nat) (fi:Int),k≤n∧i=.int .i64 k∧f=.int .i64 fi∧0≤fi∧fi≤1099511627776*k∧rightFrom [] 0 l=rightFrom ((l.take k).map Pc.name).reverse fi (l.drop k)∧((l.take k).map Pc.name).Nodup∧Seen wr w.heap.size ((l.take k).map Pc.name)∧Nw w wr) (fun _ i _=>n-(intOf i).toNat)
 case atStart=>exact⟨0,0,by omega,rfl,rfl,by omega,by omega,rfl,by simp,⟨[],0,heap_alloc_new w _,by simp,by simp⟩,(Nw.refl w).alloc _⟩
 case round =>
  obtain⟨k,fi,hk,rfl,rfl,hf0,hf1,hr,hd,hs,hw⟩:=hrel
  clear hmm
  by_cases hlt:k<n
  ·have hkl:k<l.length:=by rw[HN.out];exact hlt
   obtain⟨g,o,rfl,hg,c0,c1,c2,c3⟩:=HE.out k hkl
   have d0:=hw.cell c0
   have d1:=hw.cell c1
   have d2:=hw.cell c2
   have d3:=hw.cell c3
   have hg':=Nat.lt_of_lt_of_le hg hw.size
   have hat:=rightFrom_at hkl ((l.take k).map Pc.name).reverse fi
   rw[←hr]at hat
   have hsn:(l.take (k+1)).map Pc.name=(l.take k).map Pc.name++[l[k].name]:=by rw[List.take_succ_eq_append_getElem hkl,List.map_append];rfl
   have HOK:Hid (l[k]:Pc).Ok:=zH (HO.out _ (List.getElem_mem hkl))
   generalize (l.take k).map Pc.name=nm at hat hsn hd hs hr
   obtain⟨L1,clock,hmap,hkeys,hvals⟩:=hs.map
   have hn1:=(Nw.refl wr).alloc (.cells (pcV l[k]).toArray 98 (0,0))
   have hs1:Seen (wr.alloc (.cells (pcV l[k]).toArray 98 (0,0))) w.heap.size nm:=⟨L1,clock,hn1.at_ hmap,hkeys,hvals⟩
   obtain⟨x,W2,q1,q2,q3,q4,q5,q6⟩:=seen_step (w:=w) hs1 hd l[k].name (hw.trans hn1) (Nat.le_refl _) (heap_alloc_new wr _)
   clear hmap hkeys hvals hs hs1 hn1 c0 c1 c2 c3
   have HNX:=zH (And.intro hsn hd)
   clear hsn hd
   generalize hP:(l[k]:Pc)=P at *
   obtain⟨pn,pf,pc,pd⟩:=P
   simp only[pcV]at q1 q2 q3 q5
   have HAT:=zH hat
   have HR:=zH hr
   have Q4:=zH q4
   have Q5:=zH q5
   have Q6:=zH q6
   have HP:=zH hP
   have HW:=zH hw
   clear hat hr q4 q5 q6 hP hw
   have hxx:x=0∨x=1:=by rcases Q6.out with h|h <;> omega
   have hwx:IntKind.i64.wrap (x+1)=x+1:=IntWalk.i64_in _ (by omega)
   have y0:W2.cell? ⟨wr.heap.size,0,none⟩=some (.string ⟨pn.toArray⟩):=by have:=Q5.out;simp[World.cell?,this]
   go_wp2_with fail
   refine (named_ok pn W2 HOK.out.name).mono ?_
   rintro e w3 ⟨rfl,n3⟩
   have B3:=n3.at_ Q5.out
   have x0:w3.cell? ⟨wr.heap.size,0,none⟩=some (.string ⟨pn.toArray⟩):=by simp[World.cell?,B3]
   have x1:w3.cell? ⟨wr.heap.size,1,none⟩=some (.int .i64 pf):=by simp[World.cell?,B3]
   have x2:w3.cell? ⟨wr.heap.size,2,none⟩=some (.int .i64 pc):=by simp[World.cell?,B3]
   have x3:w3.cell? ⟨wr.heap.size,3,none⟩=some (.bool pd):=by simp[World.cell?,B3]
   have q7:=q3 w3 n3
   have N3:=zH (Q4.out.trans n3)
   have NN3:=zH n3
   clear q1 q2 q3 d0 d1 d2 d3 B3 n3 y0
   cases hok:okPiece pn
   case false =>
    have r:Hid (rightL l=false):=zH (by rw[R.out,HAT.out];simp[hok])
    clear hok
    go_wp2
    go_ret
    exact⟨by rw[r.out];rfl,N3.out⟩
   case true =>
    have HOKN:=zH hok
    clear hok
    rcases Q6.out with ⟨hin,rfl⟩|⟨hout,rfl,hseen⟩
    ·have r:Hid (rightL l=false):=zH (by rw[R.out,HAT.out];simp[hin])
     clear hin
     go_wp2
     go_ret
     exact⟨by rw[r.out];rfl,N3.out⟩
    ·have HSEEN:=zH hseen
     have HOUT:=zH hout
     clear hseen hout
     by_cases hfe:pf=fi
     ·subst hfe
      by_cases hla:k+1=n
      ·have hlb:((k:Int)==(n:Int)-1)=true:=by simp;omega
       have hlc:k+1=l.length:=by rw[HN.out];exact hla
       by_cases hp0:pc=0
       ·subst hp0
        have hw0:IntKind.i64.wrap (pf+0)=pf+0:=IntWalk.i64_in _ (by omega)
        cases pd
        case true =>
         have r:Hid (rightL l=false):=zH (by rw[R.out,HAT.out];simp[hlc])
         go_wp2
         go_ret
         exact⟨by rw[r.out];rfl,N3.out⟩
        case false =>
         have hst:rightFrom [] 0 l=rightFrom (pn::nm.reverse) (pf+0) (l.drop (k+1)):=by rw[HAT.out];simp[HOKN.out,HOUT.out,hlc]
         have HST:=zH hst
         clear hst
         go_wp2
         go_roundw
         case rel =>
          have hsn:=HNX.out.1
          refine⟨k+1,pf+0,by omega,by go_num,by first|rfl|simp,by omega,by omega,?_,?_,?_,N3.out⟩
          ·rw[hsn,List.reverse_append];exact HST.out
          ·rw[hsn,List.nodup_append];exact⟨HNX.out.2,by simp,fun a ha b hb=>by rw[List.mem_singleton]at hb;subst hb;exact fun e=>HOUT.out (e▸ha)⟩
          ·rw[hsn]
           obtain⟨L9,c9,m9,k9,v9⟩:=HSEEN.out.map
           exact⟨L9,c9,NN3.out.at_ m9,k9,v9⟩
         case measure=>simp[intOf];omega
       ·have hb:(pc !=0)=true:=by simpa using hp0
        have r:Hid (rightL l=false):=zH (by rw[R.out,HAT.out];simp[hlc,hp0])
        go_wp2
        go_ret
        exact⟨by rw[r.out];rfl,N3.out⟩
      ·have hlb:((k:Int)==(n:Int)-1)=false:=by simp;omega
       have hlc:¬ k+1=l.length:=by rw[HN.out];exact hla
       by_cases hp1:pc<1
       ·have hp1':¬ 1≤pc:=by omega
        have r:Hid (rightL l=false):=zH (by rw[R.out,HAT.out];simp[hlc,hp1'])
        go_wp2
        go_ret
        exact⟨by rw[r.out];rfl,N3.out⟩
       by_cases hp2:1099511627776<pc
       ·have hp2':¬ pc≤1099511627776:=by omega
        have r:Hid (rightL l=false):=zH (by rw[R.out,HAT.out];simp[hlc,hp2'])
        go_wp2
        go_ret
        exact⟨by rw[r.out];rfl,N3.out⟩
       have hp1':1≤pc:=by omega
       have hp2':pc≤1099511627776:=by omega
       have hw0:IntKind.i64.wrap (pf+pc)=pf+pc:=IntWalk.i64_in _ (by omega)
       have hst:rightFrom [] 0 l=rightFrom (pn::nm.reverse) (pf+pc) (l.drop (k+1)):=by rw[HAT.out];simp[HOKN.out,HOUT.out,hlc,hp1',hp2']
       have HST:=zH hst
       clear hst
       go_wp2
       go_roundw
       case rel =>
        have hsn:=HNX.out.1
        refine⟨k+1,pf+pc,by omega,by go_num,by first|rfl|simp,by omega,by omega,?_,?_,?_,N3.out⟩
        ·rw[hsn,List.reverse_append];exact HST.out
        ·rw[hsn,List.nodup_append];exact⟨HNX.out.2,by simp,fun a ha b hb=>by rw[List.mem_singleton]at hb;subst hb;exact fun e=>HOUT.out (e▸ha)⟩
        ·rw[hsn]
         obtain⟨L9,c9,m9,k9,v9⟩:=HSEEN.out.map
         exact⟨L9,c9,NN3.out.at_ m9,k9,v9⟩
       case measure=>simp[intOf];omega
     ·have r:Hid (rightL l=false):=zH (by rw[R.out,HAT.out];simp[hfe])
      have hb:(pf !=fi)=true:=by simpa using hfe
      go_wp2
      go_ret
      exact⟨by rw[r.out];rfl,N3.out⟩
  ·obtain rfl:k=n:=by omega
   have r:Hid (rightL l=true):=zH (by rw[R.out,hr,List.drop_of_length_le (by rw[HN.out];exact Nat.le_refl _)];rfl)
   clear hr hs hd
   go_wp2
   go_ret
   exact⟨by rw[r.out];rfl,hw⟩
end Go.Proofs.YtkbenkldfehhlaaGreatDoor
namespace Go.Proofs.YtkbenkldfehhlaaGreatDoor
open Go Go.RowKit
inductive Stp where
 |rd (i:Nat)
 |dn (i:Nat)
section
variable {P:Program}{ops:Array Oper}{md:Region.Mode}{C:World→Prop}{Q:Exit→Act→World→Prop}
def wpSteps (P:Program) (ops:Array Oper) (C:World→Prop) (Q:Exit→Act→World→Prop) (K:Act→World→Prop):List Stp→Act→World→Prop
 |[],a,w=>K a w
 | .rd i::l,a,w=>match ops[i]? with
  |none=>False
  |some o=>if Region.wanted o (yielded ops a.tmps) then Oper.reads P o a C (fun a'=>wpSteps P ops C Q K l a' w) else wpSteps P ops C Q K l (a.put o.dst undef) w
 | .dn i::l,a,w=>wpOp P ops Q i (fun a' w'=>C w'∧wpSteps P ops C Q K l a' w') a w
def Region.stepsB (md:Region.Mode) (ops:Array Oper) (n:Nat) (r:List Nat):List Stp→Array Bool→Bool
 |[],listed=>Region.numsB md ops r listed
 | .rd i::l,listed=>decide (i<n) && (Region.ready md ops listed).contains i && Region.free md ops listed i && Region.stepsB md ops n r l (listed.setIfInBounds i true)
 | .dn i::l,listed=>decide (i<n) && decide (Region.ready md ops listed=[i]) && Region.stepsB md ops n r l (listed.setIfInBounds i true)
theorem wpAnyK_steps {n:Nat}(hsel:Region.noSelect ops=true) (hs:Region.sinkB md ops n=true) (hc:Region.chainB md ops n=true) (hn:n<ops.size)
  (hQ:∀(c:List PanicEntry) (a:Act) (d:Tmp) (v:Value) (w:World),Q (.panic c) (a.put (some d) v) w→Q (.panic c) a w) (r:List Nat) :
  ∀(l:List Stp) (listed:Array Bool) (a:Act) (w:World),C w→HeadInv md ops n listed→Region.stepsB md ops n r l listed=true→wpSteps P ops C Q (fun a' w'=>wpNums P ops C n Q r a' w') l a w →
   wpAnyK P md ops C n Q (l.length+r.length) listed a w
 |[],listed,a,w,_,_,hB,h=>by rw[List.length_nil,Nat.zero_add];exact wpAnyK_nums r listed a w hB h
 | .dn i::l,listed,a,w,hC,inv,hB,h=>by
  simp only[Region.stepsB,Bool.and_eq_true,decide_eq_true_eq]at hB
  rw[show (Stp.dn i::l).length+r.length=(l.length+r.length)+1 by simp only[List.length_cons];omega]
  refine⟨fun h1=>(by rw[hB.1.2]at h1;cases h1),fun j hj=>?_⟩
  have hji:j=i:=by rw[hB.1.2]at hj;simpa using hj
  subst hji
  exact wpOp_mono (fun a' w' h'=>⟨fun _=>h'.1,wpAnyK_steps hsel hs hc hn hQ r l _ a' w' h'.1 (inv.set hj hB.1.1) hB.2 h'.2⟩) h
 | .rd i::l,listed,a,w,hC,inv,hB,h=>by
  simp only[Region.stepsB,Bool.and_eq_true,decide_eq_true_eq]at hB
  obtain⟨⟨⟨hin,hr⟩,hf⟩,hB'⟩:=hB
  have hr':i∈Region.ready md ops listed:=by simpa using hr
  obtain⟨hun,o,ho,_⟩:=mem_ready.1 hr'
  simp only[wpSteps,ho]at h
  have key:∃v,YieldsW P ops C o v a∧wpSteps P ops C Q (fun a' w'=>wpNums P ops C n Q r a' w') l (a.put o.dst v) w:=by
   by_cases hw:Region.wanted o (yielded ops a.tmps)=true
   ·simp only[hw,if_true]at h
    obtain⟨v,h1,h2⟩:=h
    exact⟨v,.inl ⟨hw,h1⟩,h2⟩
   ·simp only[hw]at h
    exact⟨undef,.inr ⟨by simpa using hw,rfl⟩,h⟩
  obtain⟨v,hy,hK⟩:=key
  rw[show (Stp.rd i::l).length+r.length=(l.length+r.length)+1 by simp only[List.length_cons];omega]
  exact wpAnyK_first ho (Region.noSelect_spec hsel) (fun c a w h=>by cases hdst:o.dst with|none=>(rw[hdst]at h;exact h)|some d=>(rw[hdst]at h;exact hQ c a d v w h)) hs hc hn hin (l.length+r.length) listed a w hC inv (Region.free_spec ho hf) hr' hy
   (wpAnyK_steps hsel hs hc hn hQ r l _ _ w hC (inv.set hr' hin) hB' hK)
def Region.stpB (ops:Array Oper) (n:Nat) (l:List Stp) (r:List Nat):Bool:=
 Region.noSelect ops && decide (n<ops.size) && Region.sinkB .any ops n && Region.chainB .any ops n && decide (l.length+r.length=ops.size) && Region.stepsB .any ops n r l (Array.replicate ops.size false)
theorem wp_region_steps {id:Nat}{a:Act}{w:World}{l:List Oper}(n:Nat) (st:List Stp) (r:List Nat) (C:World→Prop) (hm:P.follows .mixedOrders=true) (hB:Region.stpB l.toArray n st r=true)
  (hQ:∀(c:List PanicEntry) (a:Act) (d:Tmp) (v:Value) (w:World),Q (.panic c) (a.put (some d) v) w→Q (.panic c) a w) (hC:C w.drew)
  (h:wpSteps P l.toArray C Q (fun a' w'=>wpNums P l.toArray C n Q r a' w') st a w.drew):(Code.region id l.toArray true).wp P Q a w:=by
 simp only[Region.stpB,Bool.and_eq_true,decide_eq_true_eq]at hB
 obtain⟨⟨⟨⟨⟨hsel,hn⟩,hs⟩,hc⟩,hlen⟩,hR⟩:=hB
 have inv0:HeadInv .any l.toArray n (Array.replicate l.toArray.size false):=
  ⟨by simp,fun j oj _ hl=>(by rw[getD_replicate_false]at hl;cases hl),fun t _ ht=>getD_in (by simpa using ht) (getD_replicate_false _ _)⟩
 have H:=wpAnyK_steps (md:=.any) hsel hs hc hn hQ r st _ a w.drew hC inv0 hR h
 have H':=wpAny_of_K _ _ _ _ H
 rw[hlen]at H'
 exact wp_region_any hm H'
theorem wpSteps_nil {K:Act→World→Prop}{a:Act}{w:World}(h:K a w):wpSteps P ops C Q K [] a w:=h
theorem wpSteps_rd {K:Act→World→Prop}{a:Act}{w:World}{i:Nat}{l:List Stp}{o:Oper}(ho:ops[i]? = some o)
  (h:∀K':Act→Prop,(∀a,wpSteps P ops C Q K l a w→K' a)→if Region.wanted o (yielded ops a.tmps) then Oper.reads P o a C K' else K' (a.put o.dst undef)):wpSteps P ops C Q K (.rd i::l) a w:=by
 simp only[wpSteps,ho];exact h _ (fun _ h=>h)
theorem wpSteps_val {K:Act→World→Prop}{a:Act}{w:World}{i:Nat}{l:List Stp}{o:Oper}(v:Value) (ho:ops[i]? = some o) (hw:Region.wanted o (yielded ops a.tmps)=true)
  (hv:∀w,C w→(execOp a.eval o).run P w=.ok (.value v) w) (h:wpSteps P ops C Q K l (a.put o.dst v) w):wpSteps P ops C Q K (.rd i::l) a w:=by
 simp only[wpSteps,ho,hw,if_true];exact⟨v,hv,h⟩
theorem wpSteps_dn {K:Act→World→Prop}{a:Act}{w:World}{i:Nat}{l:List Stp}{o:Oper}(ho:ops[i]? = some o)
  (h:∀K':Act→World→Prop,(∀a w,C w→wpSteps P ops C Q K l a w→K' a w)→wpList P ops (Exit.then K' Q) [o] a w):wpSteps P ops C Q K (.dn i::l) a w:=by
 have h:=h (fun a' w'=>C w'∧wpSteps P ops C Q K l a' w') (fun a w h1 h2=>⟨h1,h2⟩)
 simp only[wpSteps,wpOp,ho]
 simp only[wpList]at h
 split
 ·rename_i hw
  rw[if_pos hw]at h
  rcases h with h|⟨h1,h2⟩
  ·refine .inl ?_
   unfold Oper.wp at *
   generalize (execOp a.eval o).run P w=r at *
   cases r with
   |ok n w' =>
    cases n <;> simp only[Oper.upon]at h ⊢
    case value u=>exact h
    case skip=>exact h
    case defer d=>exact h
    case enter f args=>exact Calls.mono h fun e w'' he=>by cases e <;> exact he
    case row row args=>exact h
   |halt x w' =>
    cases x <;> simp only[Oper.upon]at h ⊢
    case panic u=>exact h
  ·exact .inr ⟨h1,h2⟩
 ·rename_i hw
  rw[if_neg hw]at h
  exact h
end
section
variable {P:Program}{L:List Oper}{C:World→Prop}{Q:Exit→Act→World→Prop}
theorem at_list {i:Nat}{o:Oper}(h:L[i]? = some o):L.toArray[i]? = some o:=by simpa using h
theorem stp_val {K:Act→World→Prop}{a:Act}{w:World}{i:Nat}{l:List Stp}{o:Oper}{d:Nat}(v:Value) (ho:L[i]? = some o) (hd:o.dst=some d) (hw:Region.wanted o (yielded L.toArray a.tmps)=true)
  (hv:∀w,C w→(execOp a.eval o).run P w=.ok (.value v) w) (h:wpSteps P L.toArray C Q K l (a.put (some d) v) w):wpSteps P L.toArray C Q K (.rd i::l) a w:=
 wpSteps_val v (at_list ho) hw hv (by rw[hd];exact h)
theorem stp_to {K:Act→World→Prop}{a:Act}{w:World}{i:Nat}{l:List Stp}{o:Oper}{d:Nat}(v:Value) (ho:L[i]? = some o) (hd:o.dst=some d) (hw:Region.wanted o (yielded L.toArray a.tmps)=true)
  (hv:∀w,C w→(execOp a.eval o).run P w=.ok (.value v) w) (h:∀K':Act→Prop,(∀a,wpSteps P L.toArray C Q K l a w→K' a)→K' (a.put (some d) v)):wpSteps P L.toArray C Q K (.rd i::l) a w:=
 stp_val v ho hd hw hv (h _ fun _ h=>h)
theorem stp_no {K:Act→World→Prop}{a:Act}{w:World}{i:Nat}{l:List Stp}{o:Oper}{d:Nat}(ho:L[i]? = some o) (hd:o.dst=some d) (hw:Region.wanted o (yielded L.toArray a.tmps)=false)
  (h:wpSteps P L.toArray C Q K l (a.put (some d) undef) w):wpSteps P L.toArray C Q K (.rd i::l) a w:=
 wpSteps_rd (at_list ho) fun K' hK'=>by rw[if_neg (by rw[hw];decide),hd];exact hK' _ h
theorem stp_dn {K:Act→World→Prop}{a:Act}{w:World}{i:Nat}{l:List Stp}{o:Oper}(ho:L[i]? = some o)
  (h:∀K':Act→World→Prop,(∀a w,C w→wpSteps P L.toArray C Q K l a w→K' a w)→wpList P L.toArray (Exit.then K' Q) [o] a w):wpSteps P L.toArray C Q K (.dn i::l) a w:=
 wpSteps_dn (at_list ho) h
theorem stp_num {n:Nat}{a:Act}{w:World}{i:Nat}{l:List Nat}{o:Oper}(ho:L[i]? = some o)
  (h:wpList P L.toArray (Exit.then (fun a' w'=>(i<n→C w')∧wpNums P L.toArray C n Q l a' w') Q) [o] a w):wpNums P L.toArray C n Q (i::l) a w:=
 wpNums_cons (at_list ho) h
theorem stp_do {n:Nat}{a:Act}{w:World}{i:Nat}{l:List Nat}{o:Oper}(ho:L[i]? = some o) (hin:¬ i<n)
  (h:∀K':Act→World→Prop,(∀a w,wpNums P L.toArray C n Q l a w→K' a w)→wpList P L.toArray (Exit.then K' Q) [o] a w):wpNums P L.toArray C n Q (i::l) a w:=by
 refine stp_num ho ?_
 exact h (fun a' w'=>(i<n→C w')∧wpNums P L.toArray C n Q l a' w') (fun a w h=>⟨fun h'=>absurd h' hin,h⟩)
theorem stp_num_val {n:Nat}{a:Act}{w:World}{i:Nat}{l:List Nat}{o:Oper}{d:Nat}(v:Value) (ho:L[i]? = some o) (hd:o.dst=some d) (hw:Region.wanted o (yielded L.toArray a.tmps)=true) (hin:¬ i<n)
  (hv:(execOp a.eval o).run P w=.ok (.value v) w) (h:wpNums P L.toArray C n Q l (a.put (some d) v) w):wpNums P L.toArray C n Q (i::l) a w:=by
 simp only[wpNums,wpOp,at_list ho]
 rw[if_pos hw]
 refine .inl ?_
 unfold Oper.wp
 rw[hv]
 simp only[Oper.upon,hd]
 exact⟨fun h=>absurd h hin,h⟩
end
end Go.Proofs.YtkbenkldfehhlaaGreatDoor
namespace Go.Proofs.YtkbenkldfehhlaaGreatDoor
open Go
def regionOf (n:Nat):Code→Option Code
 | .region k ops d=>if k=n then some (.region k ops d) else none
 | .seq a b=>match regionOf n a with
  |some c=>some c
  |none=>regionOf n b
 | .cond _ a b=>match regionOf n a with
  |some c=>some c
  |none=>regionOf n b
 | .block _ c=>regionOf n c
 | .loop c=>regionOf n c
 | .scope c=>regionOf n c
 |_=>none
def PanicOk (Q:Exit→Act→World→Prop):Prop:=∀(c:List PanicEntry) (a:Act) (d:Tmp) (v:Value) (w:World),Q (.panic c) (a.put (some d) v) w→Q (.panic c) a w
open Go.RowKit Go.Sort
set_option maxRecDepth 100000
set_option maxHeartbeats 1600000
theorem manifest_part {l:List Pc}{k:Nat}(h:k<l.length):(l.take (k+1)).flatMap pieceB=(l.take k).flatMap pieceB++pieceB l[k]:=by
 rw[List.take_succ_eq_append_getElem h,List.flatMap_append];simp
structure Buf (w:World) (N:Nat) (o:Obj) (x:World) (v:Value) (l:List UInt8):Prop where
 vec:Vec 1 x v l.length (l.map u8)
 nw:Nw w x
 new:∀g,v.ownBlock=some g→w.heap.size≤g∧g≠N
 box:x.heap[N]? = some o
theorem Buf.on {w x x':World}{N:Nat}{o:Obj}{v:Value}{l:List UInt8}(h:Buf w N o x v l) (hw:Nw x x'):Buf w N o x' v l:=⟨h.vec.nw hw,h.nw.trans hw,h.new,hw.at_ h.box⟩
theorem Buf.step {w x x':World}{N:Nat}{o:Obj}{v v':Value}{l l':List UInt8}(h:Buf w N o x v l) (q1:Vec 1 x' v' l'.length (l'.map u8)) (q2:Only (fun k=>v.ownBlock=some k) x x')
  (q3:v'.ownBlock=v.ownBlock∨∀g,v'.ownBlock=some g→x.heap.size≤g):Buf w N o x' v' l':=by
 refine⟨q1,h.nw.trans' q2 (fun k hk hc=>by have:=(h.new k hc).1;omega),fun g hg=>?_,q2.at_ h.box (fun hc=>(h.new N hc).2 rfl)⟩
 rcases q3 with e|e
 ·exact h.new g (e▸hg)
 ·have h1:=e g hg
  have h2:=lt_of_block h.box
  have h3:=h.nw.size
  exact⟨by omega,by omega⟩
theorem Manifest_no {w:World}{v:Value}{l:List Pc}(hv:Pcs w v l) (hr:rightL l=false) :
  Calls Tryz.prog 116 #[v] w fun e w'=>e=.returned (.tuple #[.slice none 0 0,.int .i64 14])∧Nw w w':=by
 have HV:=zH hv
 obtain⟨a,cap,rfl,hc,hm,-⟩:=hv.elem
 have HR:=zH (Right_ok hv)
 rw[hr]at HR
 clear hr hv
 go_enter Tryz.func116,Tryz.ntmps116
 go_wp2_with fail
 refine HR.out.mono ?_
 rintro e w1 ⟨rfl,n1⟩
 go_wp2
 refine bodyPost_ret (v:=.tuple #[.slice none 0 0,.int .i64 14]) (by simp[results,Tryz.results116,go_sem]) rfl ⟨rfl,n1⟩
theorem Manifest_ok {w:World}{v:Value}{l:List Pc}(hv:Pcs w v l) (hr:rightL l=true) :
  Calls Tryz.prog 116 #[v] w (NewE w (manifestB l)):=by
 have HV:=zH hv
 have HB:=zH (rightL_bound hr)
 obtain⟨a,cap,rfl,hc,hm,hel⟩:=hv.elem
 have HE:=zH hel
 have HR:=zH (Right_ok hv)
 rw[hr]at HR
 clear hr hv hel
 obtain⟨n,hn⟩:=zN (l.length)
 have HN:=zH hn
 rw[hn]at hc HR ⊢
 have hn100:n≤100:=by rw[←hn];exact HB.out.2.1
 clear hn
 obtain⟨i0,hi,hz0,hz1,hz2⟩:=info_parts infoU8
 have HI:=zH hi
 have HZ0:=zH hz0
 have HZ1:=zH hz1
 have HZ2:=zH hz2
 clear hi hz0 hz1 hz2
 have kc:=fun (w:World) (C:Array Value) (n c:Nat)=>Go.Lib.run_convert_bytes_const (P:=Tryz.prog) w 79 5 C n c Tryz.underlying79 Tryz.underlying5
 have hm64:((n:Nat):Int) % 18446744073709551616=n:=by omega
 go_enter Tryz.func116,Tryz.ntmps116
 go_wp2_with fail
 refine HR.out.mono ?_
 rintro e w1 ⟨rfl,n1⟩
 have N1:=zH n1
 clear n1 HR
 have V0:=zH (vec_lit w1 5 1 4 (([65,77,77,49]:List UInt8).map u8) _ (4,5) rfl rfl (by decide) (fun j hj=>by omega))
 go_wp2_with fail
 refine (Uint_ok (l:=[65,77,77,49]) V0.out n (by omega) (by decide)).mono ?_
 rintro e w2 ⟨v2,rfl,q1,q2,q3⟩
 have HU:Hid ((uintB n).length≤10):=zH (uintB_len _ 10 (by omega) (Nat.lt_trans (show n<2 ^ 64 by omega) (by decide)))
 have G:Hid (Vec 1 w2 v2 ([65,77,77,49]++uintB n).length (([65,77,77,49]++uintB n).map u8)∧Nw w w2∧∀g,v2.ownBlock=some g→w.heap.size≤g):=zH (by
  refine⟨q1,N1.out.trans (((Nw.refl w1).alloc _).trans' q2 (fun k hk hc=>?_)),fun g hg=>?_⟩
  ·have e:w1.heap.size=k:=by simpa [Value.ownBlock] using hc
   omega
  ·have hs:=N1.out.size
   rcases q3 with h|h
   ·rw[h]at hg
    have e:w1.heap.size=g:=by simpa [Value.ownBlock] using hg
    omega
   ·have:=h g hg
    simp only[World.size_alloc]at this
    omega)
 clear q1 q2 q3 V0 kc
 obtain⟨p0,hp0⟩:∃p0:List UInt8,p0=[65,77,77,49]++uintB n:=⟨_,rfl⟩
 rw[←hp0]at G
 have HP0:=zH hp0
 have hpl:p0.length≤14:=by rw[hp0];have:=HU.out;simp only[List.length_append,List.length_cons,List.length_nil];omega
 clear hp0 HU
 go_wp2
 go_loopw [4,19] (fun b i wr=>∃(k:Nat),k≤n∧i=.int .i64 k∧Vec 1 wr b (p0++(l.take k).flatMap pieceB).length ((p0++(l.take k).flatMap pieceB).map u8)∧Nw w wr∧(∀g,b.ownBlock=some g→w.heap.size≤g)) (fun _ i _=>n-(intOf i).toNat)
 case atStart=>exact⟨0,by omega,rfl,by simpa using G.out.1,G.out.2.1,G.out.2.2⟩
 case round =>
  obtain⟨k,hk,rfl,hb,hw,hf⟩:=hrel
  have hlen:(p0++(l.take k).flatMap pieceB).length≤14+62*100:=by
   have h4:=flat_len (l:=l.take k) fun p hp=>by
    obtain⟨a,b,c,d,e⟩:=HB.out.2.2 p (List.mem_of_mem_take hp)
    exact pieceB_len a (by omega) (by omega)
   have:(l.take k).length≤100:=by simp;omega
   rw[List.length_append];omega
  have LN:=zH hlen
  clear hlen
  by_cases hlt:k<n
  ·have hkl:k<l.length:=by rw[HN.out];exact hlt
   obtain⟨g,o,rfl,hg,c0,c1,c2,c3⟩:=HE.out k hkl
   have d0:=hw.cell c0
   have d1:=hw.cell c1
   have d2:=hw.cell c2
   have d3:=hw.cell c3
   have hg':=Nat.lt_of_lt_of_le hg hw.size
   obtain⟨b1,b2,b3,b4,b5⟩:=HB.out.2.2 _ (List.getElem_mem hkl)
   have hpt:p0++(l.take (k+1)).flatMap pieceB=(p0++(l.take k).flatMap pieceB)++pieceB l[k]:=by rw[manifest_part hkl,List.append_assoc]
   obtain⟨q0,hq0⟩:∃q0,q0=p0++(l.take (k+1)).flatMap pieceB:=⟨_,rfl⟩
   rw[←hq0]at hpt
   have HQ0:=zH hq0
   clear hq0 c0 c1 c2 c3
   generalize p0++(l.take k).flatMap pieceB=p1 at *
   generalize hP:(l[k]:Pc)=P at *
   obtain⟨pn,pf,pc,pd⟩:=P
   simp only at d0 d1 d2 d3 b1 b2 b3 b4 b5
   obtain⟨sa,sc,rfl,-⟩:=hb.len
   have V:=zH (And.intro hb (And.intro hw hf))
   have BD:=zH (And.intro b1 (And.intro b2 (And.intro b3 (And.intro b4 b5))))
   have HPT:=zH hpt
   clear hb hw hf b1 b2 b3 b4 b5 hpt hP
   obtain⟨fn,rfl⟩:=Int.eq_ofNat_of_zero_le BD.out.2.1
   obtain⟨cn,rfl⟩:=Int.eq_ofNat_of_zero_le BD.out.2.2.2.1
   have hfn:fn<1152921504606846976:=by have:=BD.out.2.2.1;omega
   have hcn:cn≤1099511627776:=by have:=BD.out.2.2.2.2;omega
   have hnl:pn.length≤40:=by
    have:=(okPiece_name BD.out.1).1
    simp only[okName,Bool.and_eq_true,decide_eq_true_eq]at this
    exact this.1.2
   have hf64:IntKind.u64.wrap (fn:Int)=fn:=Go.wraps_u64 _ (by omega) (by omega)
   have hc64:IntKind.u64.wrap (cn:Int)=cn:=Go.wraps_u64 _ (by omega) (by omega)
   go_upto_region 7 with fail
   have hbx:=heap_alloc_new wr (.cells (pcV ⟨pn,fn,cn,pd⟩).toArray 98 (0,0))
   have hnx:=(Nw.refl wr).alloc (.cells (pcV ⟨pn,fn,cn,pd⟩).toArray 98 (0,0))
   change Code.wp _ _ _ _ (wr.alloc (.cells (pcV ⟨pn,fn,cn,pd⟩).toArray 98 (0,0)))
   generalize wr.alloc (.cells (pcV ⟨pn,fn,cn,pd⟩).toArray 98 (0,0))=W at hbx hnx ⊢
   have hVN:∀g,(Value.slice sa p1.length sc).ownBlock=some g→w.heap.size≤g∧g≠wr.heap.size:=fun g hg=>⟨V.out.2.2 g hg,by have:=V.out.1.lt g hg;omega⟩
   generalize wr.heap.size=N at hbx hVN ⊢
   have BF:Hid (Buf w N (.cells (pcV ⟨pn,fn,cn,pd⟩).toArray 98 (0,0)) W (.slice sa p1.length sc) p1):=zH ⟨V.out.1.nw hnx,V.out.2.1.trans hnx,hVN,hbx⟩
   have C0:∀x:World,x.heap[N]? = some (.cells (pcV ⟨pn,fn,cn,pd⟩).toArray 98 (0,0))→x.cell? ⟨N,0,none⟩=some (.string ⟨pn.toArray⟩)∧x.cell? ⟨N,1,none⟩=some (.int .i64 fn)∧x.cell? ⟨N,2,none⟩=some (.int .i64 cn)∧x.cell? ⟨N,3,none⟩=some (.bool pd):=fun x this=>by
    simp[World.cell?,this,pcV]
   clear hbx hnx hVN d0 d1 d2 d3 V
   have HC0:=zH C0
   clear C0
   refine wp_region_steps 13 [.rd 0,.rd 1,.rd 2,.rd 5,.rd 6,.rd 7,.rd 9,.rd 10,.rd 11,.dn 3,.dn 4,.dn 8,.dn 12] [13] (fun x=>x.cell? ⟨N,0,none⟩=some (.string ⟨pn.toArray⟩)∧x.cell? ⟨N,1,none⟩=some (.int .i64 fn)∧x.cell? ⟨N,2,none⟩=some (.int .i64 cn)∧x.cell? ⟨N,3,none⟩=some (.bool pd)) (by kernel_rfl) (by kernel_rfl) (fun _ _ _ _ _ h=>h) (HC0.out _ (BF.out.on ((Nw.refl W).drew)).box) ?_
   refine stp_to (.slice sa p1.length sc) rfl rfl rfl (fun x hx=>by go_simp) (fun K hK=>?_);go_simp;refine hK _ ?_;clear hK K
   refine stp_to (.pointer (some ⟨N,0,none⟩)) rfl rfl rfl (fun x hx=>by go_simp) (fun K hK=>?_);go_simp;refine hK _ ?_;clear hK K
   refine stp_to (.string ⟨pn.toArray⟩) rfl rfl rfl (fun x hx=>by obtain⟨e1,e2,e3,e4⟩:=hx;go_simp) (fun K hK=>?_);go_simp;refine hK _ ?_;clear hK K
   refine stp_to (.pointer (some ⟨N,1,none⟩)) rfl rfl rfl (fun x hx=>by go_simp) (fun K hK=>?_);go_simp;refine hK _ ?_;clear hK K
   refine stp_to (.int .i64 fn) rfl rfl rfl (fun x hx=>by obtain⟨e1,e2,e3,e4⟩:=hx;go_simp) (fun K hK=>?_);go_simp;refine hK _ ?_;clear hK K
   refine stp_to (.int .u64 fn) rfl rfl rfl (fun x hx=>by go_simp) (fun K hK=>?_);go_simp;refine hK _ ?_;clear hK K
   refine stp_to (.pointer (some ⟨N,2,none⟩)) rfl rfl rfl (fun x hx=>by go_simp) (fun K hK=>?_);go_simp;refine hK _ ?_;clear hK K
   refine stp_to (.int .i64 cn) rfl rfl rfl (fun x hx=>by obtain⟨e1,e2,e3,e4⟩:=hx;go_simp) (fun K hK=>?_);go_simp;refine hK _ ?_;clear hK K
   refine stp_to (.int .u64 cn) rfl rfl rfl (fun x hx=>by go_simp) (fun K hK=>?_);go_simp;refine hK _ ?_;clear hK K
   have cv:=Lib.run_convert_string_bytes (P:=Tryz.prog) W.drew 9 79 5 ⟨pn.toArray⟩ Tryz.underlying9 Tryz.underlying79 Tryz.underlying5
   have hcv:=Vec.of_conv W.drew 5 pn (by unfold maxLen;omega)
   have hds:W.drew.heap.size=W.heap.size:=rfl
   have cv':(convert 9 79 (.string ⟨pn.toArray⟩)).run Tryz.prog W.drew=.ok (.slice (some ⟨W.drew.heap.size,0,none⟩) pn.length (grownCap W.drew pn.length 0 5)) (Lib.bytesWorld W.drew 5 ⟨pn.toArray⟩):=cv
   clear cv
   generalize Lib.bytesWorld W.drew 5 ⟨pn.toArray⟩=W3 at cv' hcv
   generalize grownCap W.drew pn.length 0 5=c3 at cv' hcv
   rw[hds]at cv' hcv
   have HCV:=zH hcv
   clear hcv hds
   refine stp_dn rfl (fun K hK=>?_)
   go_wp2
   have B3:=zH (BF.out.on (((Nw.refl W).drew).trans HCV.out.2))
   refine hK _ _ (HC0.out _ B3.out.box) ?_;clear hK K cv'
   refine stp_dn rfl (fun K hK=>?_)
   go_wp2_with fail
   go_at_call 151
   refine (Blob_ok B3.out.vec HCV.out.1.rd (fun _ g hg hc=>?_) (by have:=LN.out;omega) (by omega)).mono ?_
   ·have h1:W.heap.size=g:=by simpa [Value.ownBlock] using hg
    have h2:=BF.out.vec.lt g hc
    omega
   rintro e w4 ⟨v4,rfl,q1,q2,q3⟩
   obtain⟨xa,xc,rfl,-⟩:=q1.len
   have hbl:(p1++blobB pn).length≤14+62*100+50:=by
    have h1:=LN.out
    have h2:=uintB_len pn.length 1 (by omega) (by omega)
    simp only[blobB,List.length_append];omega
   have hpt2:q0=(p1++blobB pn)++(uintB fn++(uintB cn++[if pd then 1 else 0])):=by rw[HPT.out];simp[pieceB]
   have B4:=zH (B3.out.step q1 q2 q3)
   clear q1 q2 q3 B3 HCV
   generalize p1++blobB pn=p2 at B4 hbl hpt2 ⊢
   have LN2:=zH hbl
   have HPT2:=zH hpt2
   clear hbl hpt2
   go_wp2
   refine hK _ _ (HC0.out _ B4.out.box) ?_;clear hK K
   refine stp_dn rfl (fun K hK=>?_)
   go_wp2_with fail
   go_at_call 126
   refine (Uint_ok B4.out.vec fn (by omega) (by have:=LN2.out;omega)).mono ?_
   rintro e w5 ⟨v5,rfl,q1,q2,q3⟩
   obtain⟨ya,yc,rfl,-⟩:=q1.len
   have hbl:(p2++uintB fn).length≤14+62*100+60:=by
    have h1:=LN2.out
    have h2:=uintB_len fn 10 (by omega) (Nat.lt_trans (show fn<2 ^ 64 by omega) (by decide))
    simp only[List.length_append];omega
   have hpt2:q0=(p2++uintB fn)++(uintB cn++[if pd then 1 else 0]):=by rw[HPT2.out];simp
   have B5:=zH (B4.out.step q1 q2 q3)
   clear q1 q2 q3 B4 HPT2 LN2
   generalize p2++uintB fn=p3 at B5 hbl hpt2 ⊢
   have LN2:=zH hbl
   have HPT2:=zH hpt2
   clear hbl hpt2
   go_wp2
   refine hK _ _ (HC0.out _ B5.out.box) ?_;clear hK K
   refine stp_dn rfl (fun K hK=>?_)
   go_wp2_with fail
   go_at_call 126
   refine (Uint_ok B5.out.vec cn (by omega) (by have:=LN2.out;omega)).mono ?_
   rintro e w6 ⟨v6,rfl,q1,q2,q3⟩
   obtain⟨za,zc,rfl,-⟩:=q1.len
   have hbl:(p3++uintB cn).length≤14+62*100+70:=by
    have h1:=LN2.out
    have h2:=uintB_len cn 10 (by omega) (Nat.lt_trans (show cn<2 ^ 64 by omega) (by decide))
    simp only[List.length_append];omega
   have hpt2:q0=(p3++uintB cn)++[if pd then 1 else 0]:=by rw[HPT2.out];simp
   have B6:=zH (B5.out.step q1 q2 q3)
   clear q1 q2 q3 B5 HPT2 LN2
   generalize p3++uintB cn=p4 at B6 hbl hpt2 ⊢
   have LN2:=zH hbl
   have HPT2:=zH hpt2
   clear hbl hpt2
   go_wp2
   refine hK _ _ (HC0.out _ B6.out.box) ?_;clear hK K
   refine wpSteps_nil ?_
   refine stp_do rfl (by decide) (fun K hK=>?_)
   go_wp2
   (try (refine hK _ _ ?_;clear hK K))
   refine wpNums_nil ?_
   obtain⟨-,-,-,x3⟩:=HC0.out _ B6.out.box
   obtain⟨dn,hdn,hdn2⟩:∃dn:UInt8,dn=(if pd then 1 else 0)∧(dn=0∨dn=1):=⟨_,rfl,by cases pd <;> simp⟩
   rw[←hdn]at HPT2
   have V7:=zH (B6.out.vec.nw ((Nw.refl w6).alloc (.cells #[u8 dn] 5 (0,0))))
   have S7:=zH (src_lit w6 5 (0,0) 1 1 1 [u8 dn] rfl (by omega) (by decide))
   have hrest:∀v' w',Vec 1 w' v' (p4.length+1) (p4.map u8++[u8 dn])→Only (fun k=>(Value.slice za p4.length zc).ownBlock=some k) (w6.alloc (.cells #[u8 dn] 5 (0,0))) w' →
     (v'.ownBlock=(Value.slice za p4.length zc).ownBlock∨∀g,v'.ownBlock=some g→(w6.alloc (.cells #[u8 dn] 5 (0,0))).heap.size≤g)→Vec 1 w' v' q0.length (q0.map u8)∧Nw w w'∧∀g,v'.ownBlock=some g→w.heap.size≤g:=fun v' w' e1 e2 e3=>by
    have hb:=(B6.out.on ((Nw.refl w6).alloc (.cells #[u8 dn] 5 (0,0)))).step (l':=q0) (by rw[HPT2.out,List.map_append,List.length_append];exact e1) e2 e3
    exact⟨hb.vec,hb.nw,fun g hg=>(hb.new g hg).1⟩
   have HREST:=zH hrest
   clear hrest
   cases pd
   case false =>
    obtain rfl:dn=0:=hdn
    have e8:u8 0=.int .u8 0:=rfl
    rw[e8]at V7 S7 HREST
    go_wp2_with (at_builtin;refine wpList_append_vec rfl _ _ 79 rfl 5 i0 (.int .u8 0) 1 1 Tryz.underlying79 HI.out HZ0.out HZ1.out HZ2.out rfl (by decide) rfl rfl V7.out S7.out ?c1 ?c2 ?c3 ?_)
    case c1=>rfl
    case c2=>have:=LN2.out;unfold maxLen;omega
    case c3=>have:=LN2.out;omega
    intro v8 w8 f1 f2 f3
    have F:=zH (HREST.out v8 w8 f1 f2 (by rw[World.size_alloc];exact f3))
    clear f1 f2 f3
    go_wp2
    go_roundw
    case rel=>exact⟨k+1,by omega,by go_num,by rw[←HQ0.out];exact F.out.1,F.out.2.1,F.out.2.2⟩
    case measure=>simp[intOf];omega
   case true =>
    obtain rfl:dn=1:=hdn
    have e8:u8 1=.int .u8 1:=rfl
    rw[e8]at V7 S7 HREST
    go_wp2_with (at_builtin;refine wpList_append_vec rfl _ _ 79 rfl 5 i0 (.int .u8 0) 1 1 Tryz.underlying79 HI.out HZ0.out HZ1.out HZ2.out rfl (by decide) rfl rfl V7.out S7.out ?c1 ?c2 ?c3 ?_)
    case c1=>rfl
    case c2=>have:=LN2.out;unfold maxLen;omega
    case c3=>have:=LN2.out;omega
    intro v8 w8 f1 f2 f3
    have F:=zH (HREST.out v8 w8 f1 f2 (by rw[World.size_alloc];exact f3))
    clear f1 f2 f3
    go_wp2
    go_roundw
    case rel=>exact⟨k+1,by omega,by go_num,by rw[←HQ0.out];exact F.out.1,F.out.2.1,F.out.2.2⟩
    case measure=>simp[intOf];omega
  ·obtain rfl:k=n:=by omega
   have hall:l.take k=l:=by rw[←HN.out];exact List.take_length
   rw[hall]at hb
   have HMI:Hid (p0++l.flatMap pieceB=manifestIn l):=zH (by rw[HP0.out];unfold manifestIn;rw[HN.out])
   rw[HMI.out]at hb
   have hlen:(manifestIn l).length≤14+62*100:=by have:=LN.out;rw[hall,HMI.out]at this;exact this
   have HMB:Hid (manifestB l=sealB sumB (manifestIn l)):=zH rfl
   obtain⟨sa,sc,rfl,-⟩:=hb.len
   have V:=zH (And.intro hb (And.intro hw hf))
   clear hb hw hf hall HMI
   generalize manifestIn l=mi at *
   go_wp2_with fail
   refine (Seal_ok V.out.1.rd (by omega)).mono ?_
   rintro e w4 ⟨v4,rfl,q1,q2,q3⟩
   rw[←HMB.out]at q1
   obtain⟨xa,xc,rfl,-⟩:=q1.len
   have Q:=zH (And.intro q1 (And.intro q2 q3))
   clear q1 q2 q3
   go_wp2
   refine bodyPost_ret (v:=.tuple #[.slice xa (manifestB l).length xc,.int .i64 0]) (by simp[results,Tryz.results116,go_sem]) rfl ⟨_,rfl,Q.out.1,V.out.2.1.trans Q.out.2.1,fun g hg=>Nat.le_trans V.out.2.1.size (Q.out.2.2 g hg)⟩
end Go.Proofs.YtkbenkldfehhlaaGreatDoor
