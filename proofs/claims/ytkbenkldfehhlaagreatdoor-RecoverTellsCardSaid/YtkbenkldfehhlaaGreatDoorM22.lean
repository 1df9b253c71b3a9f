/-
  Texts merged by a program of this claim's: DocF, DocG, DocH, Ref05A.
-/
import Derived.Test.YtkbenkldfehhlaaGreatDoorM21
import Derived.Test.YtkbenkldfehhlaaGreatDoorM13
import Derived.Test.YtkbenkldfehhlaaGreatDoorM9
import Derived.Test.YtkbenkldfehhlaaGreatDoorM10
import Derived.Deep.DeepCutAuto
namespace Go.Proofs.YtkbenkldfehhlaaGreatDoor
open Go Go.RowKit Go.Sort
set_option maxRecDepth 100000
set_option maxHeartbeats 3200000
def fourI (e:Ev):List Int:=[e.thread,e.obj,e.a,e.b]
theorem fourI_in {e:Ev}(he:e.Ok):∀x∈fourI e,in64 x:=by
 intro x hx
 simp only[fourI,List.mem_cons,List.not_mem_nil,or_false]at hx
 rcases hx with rfl|rfl|rfl|rfl
 ·exact he.thread
 ·exact he.obj
 ·exact he.a
 ·exact he.b
theorem dRight_ok {w:World}{v:Value}{l:List Pc}(hv:Pcs w v l) :
  Calls Tryz.prog 81 #[v] w fun e w'=>e=.returned (.bool (rightL l))∧Nw w w':=by
 obtain⟨a,cap,rfl,hc,hm,hel⟩:=hv.elem
 have HE:=zH hel
 have HO:=zH hv.ok
 clear hel hv
 by_cases h1:l.length<1
 ·have r:Hid (rightL l=false):=zH (by unfold rightL;rw[decide_eq_false (by omega)];rfl)
  go_enter Tryz.func81,Tryz.ntmps81
  go_wp2
  go_ret
  exact⟨by rw[r.out];rfl,Nw.refl _⟩
 by_cases h2:100<l.length
 ·have r:Hid (rightL l=false):=zH (by unfold rightL;rw[decide_eq_false (show ¬ l.length≤100 by omega)];simp)
  go_enter Tryz.func81,Tryz.ntmps81
  go_wp2
  go_ret
  exact⟨by rw[r.out];rfl,Nw.refl _⟩
 have R:Hid (rightL l=rightFrom [] 0 l):=zH (by unfold rightL;rw[decide_eq_true (show 1≤l.length by omega),decide_eq_true (show l.length≤100 by omega)];rfl)
 obtain⟨n,hn⟩:=zN (l.length)
 have HN:=zH hn
 rw[hn]at h1 h2 hc ⊢
 clear hn
 go_enter Tryz.func81,Tryz.ntmps81
 go_wp2
 go_loopw [3,4] (fun f i wr=>∃(k:Nat) (fi:Int),k<n∧i=.int .i64 k∧f=.int .i64 fi∧0≤fi∧fi≤1099511627776*k∧rightFrom [] 0 l=rightFrom ((l.take k).map Pc.name).reverse fi (l.drop k)∧Nw w wr) (fun _ i _=>n-(intOf i).toNat)
 case atStart=>exact⟨0,0,by omega,rfl,rfl,by omega,by omega,rfl,Nw.refl w⟩
 case round =>
  obtain⟨k,fi,hk,rfl,rfl,hf0,hf1,hr,hw⟩:=hrel
  have HR:=zH hr
  have HW:=zH hw
  clear hr hw
  have hlt:=hk
  have hkl:k<l.length:=by rw[HN.out];exact hlt
  obtain⟨g,o,rfl,hg,c0,c1,c2,c3⟩:=HE.out k hkl
  have hat:=rightFrom_at hkl ((l.take k).map Pc.name).reverse fi
  rw[←HR.out]at hat
  have hsn:(l.take (k+1)).map Pc.name=(l.take k).map Pc.name++[l[k].name]:=by rw[List.take_succ_eq_append_getElem hkl,List.map_append];rfl
  have HOK:Hid (l[k]:Pc).Ok:=zH (HO.out _ (List.getElem_mem hkl))
  have HNM:Hid (∀j,j<k→∃nm,((l.take k).map Pc.name)[j]? = some nm∧∀W,Nw w W→W.cell? ⟨g,o+j*4,none⟩=some (.string ⟨nm.toArray⟩)):=zH (fun j hj=>by
   obtain⟨g2,o2,he,-,d0,-,-,-⟩:=HE.out j (by omega)
   obtain⟨rfl,rfl⟩:g=g2∧o=o2:=by simpa using he
   refine⟨l[j].name,?_,fun W hW=>hW.cell d0⟩
   rw[List.getElem?_map,List.getElem?_take_of_lt hj,List.getElem?_eq_getElem];rfl)
  have hNl:((l.take k).map Pc.name).length=k:=by rw[List.length_map,List.length_take];omega
  have d0:=HW.out.cell c0
  have d1:=HW.out.cell c1
  have d2:=HW.out.cell c2
  have d3:=HW.out.cell c3
  have hg':=Nat.lt_of_lt_of_le hg HW.out.size
  have hkc:k+1=l.length↔k+1=n:=by rw[HN.out]
  simp only[hkc]at hat
  generalize (l.take k).map Pc.name=NMS at hat hsn HNM hNl
  generalize hP:(l[k]:Pc)=P at *
  obtain⟨pn,pf,pc,pd⟩:=P
  simp only at hat hsn d0 d1 d2 d3
  have HAT:=zH hat
  have HSN:=zH hsn
  have HNL:=zH hNl
  clear hat hsn hNl c0 c1 c2 c3 hP hkc
  go_upto_region 7 with fail
  go_cut [5] (fun t wx=>t=.pointer (some ⟨wr.heap.size,0,none⟩)∧Nw wr wx∧wx.heap[wr.heap.size]? = some (.cells #[.string ⟨pn.toArray⟩,.int .i64 pf,.int .i64 pc,.bool pd] 98 (0,0)))
  case first =>
   go_wp2_with fail
   go_meet
   case rel=>exact⟨rfl,(Nw.refl wr).alloc _,heap_alloc_new wr _⟩
  case rest =>
   obtain⟨rfl,n1,b1⟩:=hcut
   have N1:=zH (HW.out.trans n1)
   have hg2:=Nat.lt_of_lt_of_le hg' n1.size
   have x0:wc.cell? ⟨wr.heap.size,0,none⟩=some (.string ⟨pn.toArray⟩):=by simp[World.cell?,b1]
   have x1:wc.cell? ⟨wr.heap.size,1,none⟩=some (.int .i64 pf):=by simp[World.cell?,b1]
   have x2:wc.cell? ⟨wr.heap.size,2,none⟩=some (.int .i64 pc):=by simp[World.cell?,b1]
   have x3:wc.cell? ⟨wr.heap.size,3,none⟩=some (.bool pd):=by simp[World.cell?,b1]
   clear n1 b1 hg hg' d0 d1 d2 d3
   go_upto_region 8 with fail
   go_cut [44] (fun t wx=>t=.bool (!okPiece pn || decide (pf≠fi))∧wx=wc)
   case first =>
    go_wp2_with fail
    refine (rRight_ok pn wc HOK.out.name).mono ?_
    rintro e w3 ⟨rfl,rfl⟩
    cases hb:okName pn
    case false =>
     have r:Hid (okPiece pn=false):=zH (by unfold okPiece;rw[hb];rfl)
     clear hb
     go_wp2_with fail
     go_meet
     case rel=>exact⟨by rw[r.out];rfl,rfl⟩
    case true =>
     have HB:=zH hb
     clear hb
     by_cases hp1:pn=[109,97,110,105,102,101,115,116]
     ·have q1:(pn==[109,97,110,105,102,101,115,116])=true:=by simpa using hp1
      have r:Hid (okPiece pn=false):=zH (by rw[hp1];decide)
      clear hp1
      go_wp2_with fail
      go_meet
      case rel=>exact⟨by rw[r.out];rfl,rfl⟩
     have q1:(pn==[109,97,110,105,102,101,115,116])=false:=by simpa using hp1
     by_cases hp2:pn=[109,97,110,105,102,101,115,116,46,110,101,119]
     ·have q2:(pn==[109,97,110,105,102,101,115,116,46,110,101,119])=true:=by simpa using hp2
      have r:Hid (okPiece pn=false):=zH (by rw[hp2];decide)
      clear hp1 hp2
      go_wp2_with fail
      go_meet
      case rel=>exact⟨by rw[r.out];rfl,rfl⟩
     have q2:(pn==[109,97,110,105,102,101,115,116,46,110,101,119])=false:=by simpa using hp2
     have r:Hid (okPiece pn=true):=zH (by unfold okPiece;rw[HB.out,decide_eq_true (show pn≠manifestS from hp1),decide_eq_true (show pn≠nextS from hp2)];rfl)
     clear hp1 hp2
     by_cases hfe:pf=fi
     ·subst hfe
      go_wp2_with fail
      go_meet
      case rel=>exact⟨by rw[r.out];simp,rfl⟩
     ·have q3:(pf !=fi)=true:=by simpa using hfe
      go_wp2_with fail
      go_meet
      case rel=>exact⟨by rw[r.out];simp[hfe],rfl⟩
   case rest =>
    obtain⟨rfl,rfl⟩:=hcut
    cases hb:(!okPiece pn || decide (pf≠fi))
    case true =>
     have r:Hid (rightL l=false):=zH (by
      rw[R.out,HAT.out]
      rcases Bool.or_eq_true _ _▸hb with h|h
      ·rw[show okPiece pn=false by simpa using h];simp
      ·rw[show decide (pf=fi)=false by simpa using h];simp)
     clear hb
     go_wp2_with fail
     go_ret
     exact⟨by rw[r.out];rfl,N1.out⟩
    have HB:=zH hb
    clear hb
    go_upto_region 11 with fail
    go_loopw [6] (fun jv wx=>∃j:Nat,j≤k∧jv=.int .i64 j∧pn∉NMS.take j∧Nw wc wx) (fun jv _=>k-(intOf jv).toNat)
    case atStart=>exact⟨0,by omega,rfl,by simp,Nw.refl _⟩
    case round =>
     obtain⟨j,hj,rfl,hno,n2⟩:=hrel
     have HNO:=zH hno
     have y0:=n2.cell x0
     have y1:=n2.cell x1
     have y2:=n2.cell x2
     have y3:=n2.cell x3
     have N2:=zH (N1.out.trans n2)
     have hg3:=Nat.lt_of_lt_of_le hg2 n2.size
     have NC:=zH n2
     rename_i wj _
     clear hno n2 x0 x1 x2 x3
     by_cases hjk:j<k
     ·obtain⟨nm,hnm,hcell⟩:=HNM.out j hjk
      have z0:=hcell _ N2.out
      have hjn:j<n:=by omega
      have HNMJ:=zH hnm
      have hw:IntKind.i64.wrap ((j:Int)+1)=((j+1:Nat):Int):=by rw[←Int.natCast_one,←Int.natCast_add];exact IntWalk.i64_in _ (by omega)
      clear hnm hcell
      go_upto_region 13 with fail
      go_region
      go_wp2_with fail
      ·rename_i h
       have he:nm=pn:=by simpa using h
       have r:Hid (rightL l=false):=zH (by
        rw[R.out,HAT.out]
        have:pn∈NMS:=by rw[←he];exact List.mem_of_getElem? HNMJ.out
        simp[this])
       go_ret
       exact⟨by rw[r.out];rfl,N2.out.drew⟩
      ·rename_i h
       have he:nm≠pn:=by simpa using h
       go_roundw
       case rel =>
        refine⟨j+1,by omega,by simp,?_,NC.out.drew⟩
        rw[List.take_add_one,HNMJ.out]
        simp only[List.mem_append,not_or]
        exact⟨HNO.out,by simpa using fun h=>he h.symm⟩
       case measure=>simp only[intOf];omega
     ·have hjn:j=k:=by omega
      subst hjn
      have hfree:Hid (pn∉NMS):=zH (by have:=HNO.out;rwa [List.take_of_length_le (by rw[HNL.out];exact Nat.le_refl _)]at this)
      have hok:Hid (okPiece pn=true∧pf=fi):=zH (by
       have:=HB.out
       rw[Bool.or_eq_false_iff]at this
       exact⟨by simpa using this.1,by simpa using this.2⟩)
      have hin:pn∉NMS.reverse:=by simpa using hfree.out
      have hat:=HAT.out
      rw[hok.out.1,decide_eq_true hok.out.2,decide_eq_false hin]at hat
      have HAT2:=zH hat
      have HSN2:=zH HSN.out
      clear hat hin HAT HR HB HNO HNM HSN HNL
      by_cases hla:j+1=n
      ·have hlb:((j:Int)==(n:Int)-1)=true:=by simp;omega
       have hlb2:((j:Int)=(n:Int)-1):=by omega
       by_cases hp0:pc=0
       ·subst hp0
        cases pd
        case true =>
         have r:Hid (rightL l=false):=zH (by rw[R.out,HAT2.out];simp[hla])
         go_wp2_with fail
         go_ret
         exact⟨by rw[r.out];rfl,N2.out⟩
        case false =>
         have r:Hid (rightL l=true):=zH (by rw[R.out,HAT2.out,List.drop_eq_nil_of_le (by rw[HN.out];omega)];simp[hla,rightFrom])
         go_wp2_with fail
         go_ret
         exact⟨by rw[r.out];rfl,N2.out⟩
       ·have r:Hid (rightL l=false):=zH (by rw[R.out,HAT2.out];simp[hla,hp0])
        have hpb:(pc==0)=false:=by simpa using hp0
        go_wp2_with fail
        go_ret
        exact⟨by rw[r.out];rfl,N2.out⟩
      ·have hlb:((j:Int)==(n:Int)-1)=false:=by simp;omega
       have hlb2:¬ ((j:Int)=(n:Int)-1):=by omega
       by_cases hp1:pc<1
       ·have r:Hid (rightL l=false):=zH (by rw[R.out,HAT2.out,decide_eq_false (show ¬ 1≤pc by omega)];simp[hla])
        go_wp2_with fail
        go_ret
        exact⟨by rw[r.out];rfl,N2.out⟩
       by_cases hp2:1099511627776<pc
       ·have r:Hid (rightL l=false):=zH (by rw[R.out,HAT2.out,decide_eq_false (show ¬ pc≤1099511627776 by omega)];simp[hla])
        go_wp2_with fail
        go_ret
        exact⟨by rw[r.out];rfl,N2.out⟩
       have hw:IntKind.i64.wrap ((j:Int)+1)=((j+1:Nat):Int):=by rw[←Int.natCast_one,←Int.natCast_add];exact IntWalk.i64_in _ (by omega)
       have hw2:IntKind.i64.wrap (fi+pc)=fi+pc:=IntWalk.i64_in _ (by omega)
       have hn:Hid (rightFrom [] 0 l=rightFrom (pn::NMS.reverse) (fi+pc) (l.drop (j+1))):=zH (by
        rw[HAT2.out,if_neg hla,decide_eq_true (show 1≤pc by omega),decide_eq_true (show pc≤1099511627776 by omega)];simp)
       have HN2:=zH hn
       clear hn
       go_wp2_with fail
       go_roundw
       case rel =>
        refine⟨j+1,fi+pc,by omega,by simp,rfl,by omega,by omega,?_,N2.out⟩
        rw[HN2.out.out,HSN2.out,List.reverse_append];rfl
       case measure=>simp only[intOf];omega
end Go.Proofs.YtkbenkldfehhlaaGreatDoor
