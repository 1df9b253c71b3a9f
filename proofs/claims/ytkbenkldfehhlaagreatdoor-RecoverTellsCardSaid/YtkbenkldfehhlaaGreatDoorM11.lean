/-
  Texts merged by a program of this claim's: LogD, LogE, LogF, LogG, ReadC.
-/
import Derived.Test.YtkbenkldfehhlaaGreatDoorM10
import Derived.Test.YtkbenkldfehhlaaGreatDoorShelfNS
import Derived.Lib.AppendIntMem
import Derived.Test.YtkbenkldfehhlaaGreatDoorM9
namespace Go.Proofs.YtkbenkldfehhlaaGreatDoor
open Go Go.RowKit Go.Sort
set_option maxRecDepth 100000
set_option maxHeartbeats 1600000
theorem two_eta (r:Dsk×Int):r=(r.1,r.2):=rfl
def fnV (f:Nat×Array Value):Value:=.func (.func f.1) #[] f.2
theorem steps_ok {w:World}(fs:List (Nat×Array Value)) (S:Nat→World→Prop) (T:Int→World→Prop) (g o cap:Nat) (hlen:fs.length≤100)
  (hen:∀i (h:i<fs.length),Enters Tryz.prog fs[i].1) (hcell:∀i W,S i W→∀j (h:j<fs.length),W.cell? ⟨g,o+j,none⟩=some (fnV fs[j]))
  (hdo:∀i (h:i<fs.length) W,S i W→Calls Tryz.prog fs[i].1 fs[i].2 W fun e W'=>∃x,e=.returned (.int .i64 x)∧((x=0∧S (i+1) W')∨(x≠0∧T x W')))
  (h0:S 0 w):Calls Tryz.prog 111 #[.slice (some ⟨g,o,none⟩) fs.length cap] w fun e W'=>∃x,e=.returned (.int .i64 x)∧((x=0∧S fs.length W')∨(x≠0∧T x W')):=by
 unfold Enters at hen
 have HEN:=zH hen
 have HC:=zH hcell
 have HD:=zH hdo
 clear hen hcell hdo
 obtain⟨n,hn⟩:=zN (fs.length)
 have HN:=zH hn
 rw[hn]at hlen ⊢
 clear hn
 go_enter Tryz.func111,Tryz.ntmps111
 go_wp2
 go_loopw [8] (fun i wr=>∃k:Nat,k≤n∧i=.int .i64 k∧S k wr) (fun i _=>n-(intOf i).toNat)
 case atStart=>exact⟨0,by omega,rfl,h0⟩
 case round =>
  obtain⟨k,hk,rfl,hs⟩:=hrel
  by_cases hlt:k<n
  ·have hkl:k<fs.length:=by rw[HN.out];exact hlt
   have c0:=HC.out k wr hs k hkl
   have hgl:g<wr.heap.size:=World.block_lt_of_cell? _ _ c0
   have en:=HEN.out k hkl
   have cd:=zH (HD.out k hkl wr hs)
   generalize fs[k]=F at c0 en cd
   obtain⟨f,c⟩:=F
   unfold fnV at c0
   simp only at c0 en cd
   clear hs
   go_wp2_with (refine cd.out.mono ?_)
   rintro e w1 ⟨x,rfl,⟨rfl,hs1⟩|⟨hx,ht⟩⟩
   ·have S1:=zH hs1
    clear hs1
    go_wp2
    go_roundw
    case rel=>exact⟨k+1,by omega,by go_num,S1.out⟩
    case measure=>simp[intOf];omega
   ·have hb:(x !=0)=true:=by simpa using hx
    go_wp2
    go_ret
    exact⟨x,rfl,.inr ⟨hx,ht⟩⟩
  ·obtain rfl:k=n:=by omega
   go_wp2
   go_ret
   exact⟨0,rfl,.inl ⟨rfl,hs⟩⟩
section
variable {X:Nat→Prop}{w0 w:World}{b:Nat}{d:Dsk}
theorem Install1_ok (h:HasX X w0 w b d) (p:Nat) (hp:w.cell? ⟨p,0,none⟩=some (.pointer (some ⟨b,0,none⟩))) :
  Calls Tryz.prog 117 #[.pointer (some ⟨p,0,none⟩)] w (DidX X w0 w b (d.gone nextS).1 (.int .i64 (d.gone nextS).2)):=by
 have H:=zH (gone_ok h nextS)
 clear h
 generalize d.gone nextS=r0 at H ⊢
 go_enter Tryz.func117,Tryz.ntmps117
 go_wp2_with fail
 refine H.out.mono ?_
 rintro e w1 ⟨rfl,q1,q2⟩
 go_wp2
 go_ret
 exact⟨rfl,q1,q2⟩
theorem Install2_ok (h:HasX X w0 w b d) (p q:Nat) (hp:w.cell? ⟨p,0,none⟩=some (.pointer (some ⟨b,0,none⟩))){src:Value}{l:List UInt8}(hq:w.cell? ⟨q,0,none⟩=some src) (hs:Bs w src l) (hX:∀g,src.ownBlock=some g→X g) (hl:l.length≤1000000) :
  Calls Tryz.prog 118 #[.pointer (some ⟨p,0,none⟩),.pointer (some ⟨q,0,none⟩)] w (DidX X w0 w b (d.append nextS l).1 (.int .i64 (d.append nextS l).2)):=by
 have H:=zH (h.append nextS l src hs (fun _ g hg=>.inl (hX g hg)) (by decide) (by omega) (two_eta _))
 obtain⟨xa,xc,rfl,-⟩:=hs.len
 clear h hs hX
 generalize d.append nextS l=r0 at H ⊢
 go_enter Tryz.func118,Tryz.ntmps118
 go_wp2_with fail
 refine H.out.mono ?_
 rintro e w1 ⟨rfl,q1,q2⟩
 go_wp2
 go_ret
 exact⟨rfl,q1,q2⟩
theorem Install3_ok (h:HasX X w0 w b d) (p:Nat) (hp:w.cell? ⟨p,0,none⟩=some (.pointer (some ⟨b,0,none⟩))) :
  Calls Tryz.prog 119 #[.pointer (some ⟨p,0,none⟩)] w (DidX X w0 w b (d.sync nextS).1 (.int .i64 (d.sync nextS).2)):=by
 have H:=zH (h.sync nextS (two_eta _))
 clear h
 generalize d.sync nextS=r0 at H ⊢
 go_enter Tryz.func119,Tryz.ntmps119
 go_wp2_with fail
 refine H.out.mono ?_
 rintro e w1 ⟨rfl,q1,q2⟩
 go_wp2
 go_ret
 exact⟨rfl,q1,q2⟩
theorem Install4_ok (h:HasX X w0 w b d) (p:Nat) (hp:w.cell? ⟨p,0,none⟩=some (.pointer (some ⟨b,0,none⟩))) :
  Calls Tryz.prog 120 #[.pointer (some ⟨p,0,none⟩)] w (DidX X w0 w b (d.rename nextS manifestS).1 (.int .i64 (d.rename nextS manifestS).2)):=by
 have H:=zH (h.rename nextS manifestS (by decide) (two_eta _))
 clear h
 generalize d.rename nextS manifestS=r0 at H ⊢
 go_enter Tryz.func120,Tryz.ntmps120
 go_wp2_with fail
 refine H.out.mono ?_
 rintro e w1 ⟨rfl,q1,q2⟩
 go_wp2
 go_ret
 exact⟨rfl,q1,q2⟩
theorem begin1_ok (h:HasX X w0 w b d) (p q:Nat) (n:Str) (hp:w.cell? ⟨p,0,none⟩=some (.pointer (some ⟨b,0,none⟩))) (hq:w.cell? ⟨q,0,none⟩=some (.string ⟨n.toArray⟩)) :
  Calls Tryz.prog 112 #[.pointer (some ⟨p,0,none⟩),.pointer (some ⟨q,0,none⟩)] w (DidX X w0 w b (d.gone n).1 (.int .i64 (d.gone n).2)):=by
 have H:=zH (gone_ok h n)
 clear h
 generalize d.gone n=r0 at H ⊢
 go_enter Tryz.func112,Tryz.ntmps112
 go_wp2_with fail
 refine H.out.mono ?_
 rintro e w1 ⟨rfl,q1,q2⟩
 go_wp2
 go_ret
 exact⟨rfl,q1,q2⟩
theorem begin2_ok (h:HasX X w0 w b d) (p q r:Nat) (n:Str) (hp:w.cell? ⟨p,0,none⟩=some (.pointer (some ⟨b,0,none⟩))) (hq:w.cell? ⟨q,0,none⟩=some (.string ⟨n.toArray⟩)) (hn:n.length≤9223372036854775807)
  {src:Value}{l:List UInt8}(hr:w.cell? ⟨r,0,none⟩=some src) (hs:Bs w src l) (hX:∀g,src.ownBlock=some g→X g) (hl:l.length≤1000000) :
  Calls Tryz.prog 114 #[.pointer (some ⟨p,0,none⟩),.pointer (some ⟨q,0,none⟩),.pointer (some ⟨r,0,none⟩)] w (DidX X w0 w b (d.append n l).1 (.int .i64 (d.append n l).2)):=by
 have H:=zH (h.append n l src hs (fun _ g hg=>.inl (hX g hg)) hn (by omega) (two_eta _))
 obtain⟨xa,xc,rfl,-⟩:=hs.len
 clear h hs hX hn
 generalize d.append n l=r0 at H ⊢
 go_enter Tryz.func114,Tryz.ntmps114
 go_wp2_with fail
 refine H.out.mono ?_
 rintro e w1 ⟨rfl,q1,q2⟩
 go_wp2
 go_ret
 exact⟨rfl,q1,q2⟩
theorem begin3_ok (h:HasX X w0 w b d) (p q:Nat) (n:Str) (hp:w.cell? ⟨p,0,none⟩=some (.pointer (some ⟨b,0,none⟩))) (hq:w.cell? ⟨q,0,none⟩=some (.string ⟨n.toArray⟩)) :
  Calls Tryz.prog 115 #[.pointer (some ⟨p,0,none⟩),.pointer (some ⟨q,0,none⟩)] w (DidX X w0 w b (d.sync n).1 (.int .i64 (d.sync n).2)):=by
 have H:=zH (h.sync n (two_eta _))
 clear h
 generalize d.sync n=r0 at H ⊢
 go_enter Tryz.func115,Tryz.ntmps115
 go_wp2_with fail
 refine H.out.mono ?_
 rintro e w1 ⟨rfl,q1,q2⟩
 go_wp2
 go_ret
 exact⟨rfl,q1,q2⟩
end
theorem fresh_1 {d:Dsk}{n:Str}{m:List UInt8}(h:(d.gone n).2≠0):d.fresh n m=d.gone n:=by
 unfold Dsk.fresh andThen
 rw[if_neg h,if_neg h]
theorem fresh_2 {d:Dsk}{n:Str}{m:List UInt8}(h:(d.gone n).2=0) (h2:((d.gone n).1.append n m).2≠0):d.fresh n m=(d.gone n).1.append n m:=by
 unfold Dsk.fresh andThen
 rw[if_pos h,if_neg h2]
theorem fresh_3 {d:Dsk}{n:Str}{m:List UInt8}(h:(d.gone n).2=0) (h2:((d.gone n).1.append n m).2=0):d.fresh n m=((d.gone n).1.append n m).1.sync n:=by
 unfold Dsk.fresh andThen
 rw[if_pos h,if_pos h2]
theorem install_of {d:Dsk}{l:List Pc}(hr:rightL l=true):d.install l=andThen (d.fresh nextS (manifestB l)) (·.rename nextS manifestS):=by
 unfold Dsk.install;rw[if_pos hr]
theorem install_err {d:Dsk}{l:List Pc}(hr:rightL l=true) (h:(d.fresh nextS (manifestB l)).2≠0):d.install l=d.fresh nextS (manifestB l):=by
 rw[install_of hr];unfold andThen;rw[if_neg h]
theorem install_end {d:Dsk}{l:List Pc}(hr:rightL l=true) (h:(d.fresh nextS (manifestB l)).2=0):d.install l=(d.fresh nextS (manifestB l)).1.rename nextS manifestS:=by
 rw[install_of hr];unfold andThen;rw[if_pos h]
section
variable {X:Nat→Prop}{w0 w:World}{b:Nat}{d:Dsk}
def Chain (Y:Nat→Prop) (w0 w4:World) (b:Nat) (d:Dsk) (n:Str) (m:List UInt8) (i:Nat) (W:World):Prop:=Kept Y w4 W ∧
 match i with
 |0=>HasX Y w0 W b d
 |1=>(d.gone n).2=0∧HasX Y w0 W b (d.gone n).1
 |2=>(d.gone n).2=0∧((d.gone n).1.append n m).2=0∧HasX Y w0 W b ((d.gone n).1.append n m).1
 |3=>(d.fresh n m).2=0∧HasX Y w0 W b (d.fresh n m).1
 |_=>(d.fresh n m).2=0∧((d.fresh n m).1.rename nextS manifestS).2=0∧HasX Y w0 W b ((d.fresh n m).1.rename nextS manifestS).1
theorem zero_or {Y:Nat→Prop}{w0 w W:World}{b:Nat}{d':Dsk}{x:Int}{e:Ending}{A:Prop}{B:Int→Prop}(h:DidX Y w0 w b d' (.int .i64 x) e W) (hA:x=0→HasX Y w0 W b d'→Kept Y w W→A) (hB:x≠0→HasX Y w0 W b d'→Kept Y w W→B x) :
  ∃x,e=.returned (.int .i64 x)∧((x=0∧A)∨(x≠0∧B x)):=by
 obtain⟨rfl,h1,h2⟩:=h
 by_cases hx:x=0
 ·exact⟨x,rfl,.inl ⟨hx,hA hx h1 h2⟩⟩
 ·exact⟨x,rfl,.inr ⟨hx,hB hx h1 h2⟩⟩
theorem Install_no (h:HasX X w0 w b d){v:Value}{l:List Pc}(hv:Pcs w v l) (hr:rightL l=false) :
  Calls Tryz.prog 68 #[.pointer (some ⟨b,0,none⟩),v] w (DidX X w0 w b (d.install l).1 (.int .i64 (d.install l).2)):=by
 have E:Hid (d.install l=(d,14)):=zH (by unfold Dsk.install;rw[hr];rfl)
 rw[E.out]
 have hn1:=(Nw.refl w).alloc (.cells #[.pointer (some ⟨b,0,none⟩)] 25 (0,0))
 have HM:=zH (Manifest_no (hv.nw hn1) hr)
 obtain⟨a,cap,rfl,-⟩:=hv.elem
 have H:=zH h
 have HN1:=zH hn1
 clear h hv hn1 E
 go_enter Tryz.func68,Tryz.ntmps68
 go_wp2_with fail
 refine HM.out.mono ?_
 rintro e w2 ⟨rfl,n2⟩
 have N2:=zH (HN1.out.trans n2)
 clear n2
 go_wp2
 go_ret
 exact⟨rfl,H.out.nw (N2.out.alloc _),(N2.out.alloc _).kept⟩
theorem Install_yes (h:HasX X w0 w b d){v:Value}{l:List Pc}(hv:Pcs w v l) (hr:rightL l=true) :
  Calls Tryz.prog 68 #[.pointer (some ⟨b,0,none⟩),v] w (DidX X w0 w b (d.install l).1 (.int .i64 (d.install l).2)):=by
 have hn1:=(Nw.refl w).alloc (.cells #[.pointer (some ⟨b,0,none⟩)] 25 (0,0))
 have hb1:=heap_alloc_new w (.cells #[.pointer (some ⟨b,0,none⟩)] 25 (0,0))
 have HM:=zH (Manifest_ok (hv.nw hn1) hr)
 have HML:=zH (manifestB_len hr)
 obtain⟨a,cap,rfl,-⟩:=hv.elem
 have H:=zH h
 have HN1:=zH hn1
 have HB1:=zH hb1
 have HR:=zH hr
 obtain⟨r,hres⟩:=zN (d.install l)
 have E:=zH hres
 rw[hres]
 obtain⟨m,hm⟩:=zN (manifestB l)
 have HMM:=zH hm
 rw[hm]at HM HML
 clear h hv hn1 hb1 hr hres hm
 go_enter Tryz.func68,Tryz.ntmps68
 go_wp2_with fail
 refine HM.out.mono ?_
 rintro e w2 ⟨v2,rfl,q1,q2,q3⟩
 obtain⟨xa,xc,rfl,-⟩:=q1.len
 have Q:=zH (And.intro q1 (And.intro (HN1.out.trans q2) (fun g hg=>Nat.le_trans HN1.out.size (q3 g hg))))
 have B2:=zH (q2.at_ HB1.out)
 clear q1 q2 q3 HM
 go_wp2_with fail
 have hw2:w.heap.size<w2.heap.size:=lt_of_block B2.out
 have n4:=((Nw.refl w2).alloc (.cells #[.slice xa m.length xc] 79 (0,0))).alloc (.cells #[.func (.func 117) #[] #[.pointer (some ⟨w.heap.size,0,none⟩)],.func (.func 118) #[] #[.pointer (some ⟨w.heap.size,0,none⟩),.pointer (some ⟨w2.heap.size,0,none⟩)],.func (.func 119) #[] #[.pointer (some ⟨w.heap.size,0,none⟩)],.func (.func 120) #[] #[.pointer (some ⟨w.heap.size,0,none⟩)]] 69 (0,0))
 have b5:((w2.alloc (.cells #[.slice xa m.length xc] 79 (0,0))).alloc (.cells #[.func (.func 117) #[] #[.pointer (some ⟨w.heap.size,0,none⟩)],.func (.func 118) #[] #[.pointer (some ⟨w.heap.size,0,none⟩),.pointer (some ⟨w2.heap.size,0,none⟩)],.func (.func 119) #[] #[.pointer (some ⟨w.heap.size,0,none⟩)],.func (.func 120) #[] #[.pointer (some ⟨w.heap.size,0,none⟩)]] 69 (0,0))).heap[w2.heap.size]? = some (.cells #[.slice xa m.length xc] 79 (0,0)):=
  (heap_alloc_old _ _ (by simp)).trans (heap_alloc_new w2 _)
 have b6:=heap_alloc_new (w2.alloc (.cells #[.slice xa m.length xc] 79 (0,0))) (.cells #[.func (.func 117) #[] #[.pointer (some ⟨w.heap.size,0,none⟩)],.func (.func 118) #[] #[.pointer (some ⟨w.heap.size,0,none⟩),.pointer (some ⟨w2.heap.size,0,none⟩)],.func (.func 119) #[] #[.pointer (some ⟨w.heap.size,0,none⟩)],.func (.func 120) #[] #[.pointer (some ⟨w.heap.size,0,none⟩)]] 69 (0,0))
 rw[World.size_alloc]at b6
 generalize (w2.alloc (.cells #[.slice xa m.length xc] 79 (0,0))).alloc (.cells #[.func (.func 117) #[] #[.pointer (some ⟨w.heap.size,0,none⟩)],.func (.func 118) #[] #[.pointer (some ⟨w.heap.size,0,none⟩),.pointer (some ⟨w2.heap.size,0,none⟩)],.func (.func 119) #[] #[.pointer (some ⟨w.heap.size,0,none⟩)],.func (.func 120) #[] #[.pointer (some ⟨w.heap.size,0,none⟩)]] 69 (0,0))=w4 at n4 b5 b6 ⊢
 have b4:=n4.at_ B2.out
 have hn4:Nw w w4:=Q.out.2.1.trans n4
 have hs4:w2.heap.size+1<w4.heap.size:=lt_of_block b6
 obtain⟨Y,hY⟩:∃Y:Nat→Prop,Y=fun k=>X k∨w.heap.size≤k∧k<w4.heap.size:=⟨_,rfl⟩
 have y1:Y w.heap.size:=by rw[hY];exact .inr ⟨Nat.le_refl _,by omega⟩
 have y2:Y w2.heap.size:=by rw[hY];exact .inr ⟨by omega,by omega⟩
 have y3:Y (w2.heap.size+1):=by rw[hY];exact .inr ⟨by omega,by omega⟩
 have y4:∀g,(Value.slice xa m.length xc).ownBlock=some g→Y g:=fun g hg=>by
  have:=Q.out.1.lt g hg
  rw[hY];exact .inr ⟨Q.out.2.2 g hg,by omega⟩
 have hx4:HasX Y w0 w4 b d:=H.out.nwY hn4 (fun k hk=>by rw[hY]at hk;exact hk)
 have hXY:∀k,X k→Y k:=fun k hk=>by rw[hY];exact .inl hk
 have cA:∀W,Kept Y w4 W→W.cell? ⟨w.heap.size,0,none⟩=some (.pointer (some ⟨b,0,none⟩)):=fun W hk=>by
  have:=(hk.2 _ y1 (by omega)).trans b4
  simp[World.cell?,this]
 have cB:∀W,Kept Y w4 W→W.cell? ⟨w2.heap.size,0,none⟩=some (.slice xa m.length xc):=fun W hk=>by
  have:=(hk.2 _ y2 (by omega)).trans b5
  simp[World.cell?,this]
 have cR:∀W,Kept Y w4 W→W.heap[w2.heap.size+1]? = _:=fun W hk=>(hk.2 _ y3 hs4).trans b6
 have hbs:∀W,Kept Y w4 W→Bs W (.slice xa m.length xc) m:=fun W hk=>((Q.out.1.nw n4).rd).kept hk (fun _ g hg=>y4 g hg)
 have hrl:rightL l=true:=HR.out
 have hmm:manifestB l=m:=HMM.out
 have hST:=steps_ok (w:=w4) [(117,#[.pointer (some ⟨w.heap.size,0,none⟩)]),(118,#[.pointer (some ⟨w.heap.size,0,none⟩),.pointer (some ⟨w2.heap.size,0,none⟩)]),(119,#[.pointer (some ⟨w.heap.size,0,none⟩)]),(120,#[.pointer (some ⟨w.heap.size,0,none⟩)])]
  (Chain Y w0 w4 b d nextS m) (fun x W=>Kept Y w4 W∧HasX Y w0 W b r.1∧x=r.2) (w2.heap.size+1) 0 4 (by simp)
  (fun i hi=>by
   have:i=0∨i=1∨i=2∨i=3:=by simp at hi;omega
   rcases this with rfl|rfl|rfl|rfl
   ·exact enters_of Tryz.func117 (by kernel_rfl) (by kernel_rfl)
   ·exact enters_of Tryz.func118 (by kernel_rfl) (by kernel_rfl)
   ·exact enters_of Tryz.func119 (by kernel_rfl) (by kernel_rfl)
   ·exact enters_of Tryz.func120 (by kernel_rfl) (by kernel_rfl))
  (fun i W hS j hj=>by
   have hb:=cR W hS.1
   have:j=0∨j=1∨j=2∨j=3:=by simp at hj;omega
   rcases this with rfl|rfl|rfl|rfl <;> simp[World.cell?,hb,fnV])
  (fun i hi W hS=>by
   have hk:=hS.1
   have:i=0∨i=1∨i=2∨i=3:=by simp at hi;omega
   rcases this with rfl|rfl|rfl|rfl
   ·refine (Install1_ok hS.2 w.heap.size (cA W hk)).mono fun e W' hd=>zero_or hd (fun z hx hkk=>⟨hk.trans hkk,z,hx⟩) (fun z hx hkk=>⟨hk.trans hkk,?_⟩)
    rw[←E.out,install_err hrl (by rw[fresh_1 z];exact z),fresh_1 z]
    exact⟨hx,rfl⟩
   ·obtain⟨z1,hx1⟩:=hS.2
    refine (Install2_ok hx1 w.heap.size w2.heap.size (cA W hk) (cB W hk) (hbs W hk) y4 (by have:=HML.out;omega)).mono fun e W' hd=>zero_or hd (fun z hx hkk=>⟨hk.trans hkk,z1,z,hx⟩) (fun z hx hkk=>⟨hk.trans hkk,?_⟩)
    rw[←E.out,install_err hrl (by rw[hmm,fresh_2 z1 z];exact z),hmm,fresh_2 z1 z]
    exact⟨hx,rfl⟩
   ·obtain⟨z1,z2,hx1⟩:=hS.2
    refine (Install3_ok hx1 w.heap.size (cA W hk)).mono fun e W' hd=>zero_or hd (fun z hx hkk=>⟨hk.trans hkk,by rw[fresh_3 z1 z2];exact⟨z,hx⟩⟩) (fun z hx hkk=>⟨hk.trans hkk,?_⟩)
    rw[←E.out,install_err hrl (by rw[hmm,fresh_3 z1 z2];exact z),hmm,fresh_3 z1 z2]
    exact⟨hx,rfl⟩
   ·obtain⟨z1,hx1⟩:=hS.2
    refine (Install4_ok hx1 w.heap.size (cA W hk)).mono fun e W' hd=>zero_or hd (fun z hx hkk=>⟨hk.trans hkk,z1,z,hx⟩) (fun z hx hkk=>⟨hk.trans hkk,?_⟩)
    rw[←E.out,install_end hrl (by rw[hmm];exact z1),hmm]
    exact⟨hx,rfl⟩)
  ⟨Kept.refl w4,hx4⟩
 have hend:∀x W,((x=0∧Chain Y w0 w4 b d nextS m 4 W)∨(x≠0∧(Kept Y w4 W∧HasX Y w0 W b r.1∧x=r.2)))→x=r.2∧HasX X w0 W b r.1∧Kept X w W:=fun x W hc=>by
  rcases hc with ⟨rfl,hk,z1,z2,hx⟩|⟨hx,hk,hh,rfl⟩
  ·have e:d.install l=(d.fresh nextS m).1.rename nextS manifestS:=by rw[install_end hrl (by rw[hmm];exact z1),hmm]
   rw[E.out]at e
   rw[e]
   exact⟨z2.symm,hx.weak hXY,hn4.kept.trans (hk.weak hXY)⟩
  ·exact⟨rfl,hh.weak hXY,hn4.kept.trans (hk.weak hXY)⟩
 have HEND:=zH hend
 have HST:=zH hST
 clear hend hST cA cB cR hbs hx4 hXY y1 y2 y3 y4 hY b4 b5 b6 n4 hrl hmm hs4 hw2
 refine HST.out.mono ?_
 rintro e w5 ⟨x,rfl,hc⟩
 obtain⟨e1,e2,e3⟩:=HEND.out x w5 hc
 have Z:=zH (And.intro e2 e3)
 clear hc e2 e3 HST HEND
 subst e1
 go_wp2
 go_ret
 exact⟨rfl,Z.out.1,Z.out.2⟩
theorem Install_ok (h:HasX X w0 w b d){v:Value}{l:List Pc}(hv:Pcs w v l) :
  Calls Tryz.prog 68 #[.pointer (some ⟨b,0,none⟩),v] w (DidX X w0 w b (d.install l).1 (.int .i64 (d.install l).2)):=by
 cases hr:rightL l
 ·exact Install_no h hv hr
 ·exact Install_yes h hv hr
end
def Tab (w : World) : Prop := Lib.TabIs Tryz.prog w "internal/strconv.uint64pow10" .u64 Lib.pow10Tab
theorem Tab.nw {w w':World}(h:Tab w) (hw:Nw w w'):Tab w':=Lib.tabBelow_of_tabIs h w' hw.below
theorem Itoa_ok (n:Nat) (hn:n≤9223372036854775807){w:World}(ht:Tab w) :
  Calls Tryz.prog 109 #[.int .i64 n] w fun e w'=>e=.returned (.string ⟨(Lib.decDigits n).toArray⟩)∧Nw w w':=by
 refine (Tryz.strconv_Itoa n (by omega) (by omega) w ht).mono ?_
 rintro e w' ⟨rfl,k,os,rfl⟩
 exact⟨by rw[Lib.itoa_nonneg],Nw.of_below (Lib.below_grow w.heap.size w (Nat.le_refl _) k os)⟩
theorem seg_cat (n:Nat):(⟨#[115]⟩++⟨(Lib.decDigits n).toArray⟩:ByteArray)=⟨(segName n).toArray⟩:=ByteArray.mk_append_mk [115] (Lib.decDigits n)
section
variable {X:Nat→Prop}{w0 w:World}{b:Nat}{d:Dsk}
def Begun (X:Nat→Prop) (w0 w:World) (b:Nat) (d:Dsk) (n:Nat) (e:Ending) (w':World):Prop:=
 e=.returned (.tuple #[.string ⟨(segName n).toArray⟩,.int .i64 (headB n).length,.int .i64 (d.begun n).2])∧HasX X w0 w' b (d.begun n).1∧Kept X w w'
theorem begin_ok (h:HasX X w0 w b d) (n:Nat) (hn:n≤4611686018427387904) (ht:Tab w) :
  Calls Tryz.prog 67 #[.pointer (some ⟨b,0,none⟩),.int .i64 n] w (Begun X w0 w b d n):=by
 have hn1:=(Nw.refl w).alloc (.cells #[.pointer (some ⟨b,0,none⟩)] 25 (0,0))
 have hb1:=heap_alloc_new w (.cells #[.pointer (some ⟨b,0,none⟩)] 25 (0,0))
 have HI:=zH (Itoa_ok n (by omega) (ht.nw hn1))
 have H:=zH h
 have HN1:=zH hn1
 have HB1:=zH hb1
 clear h hn1 hb1
 go_enter Tryz.func67,Tryz.ntmps67
 have hcat:=seg_cat n
 have hdl:(Lib.decDigits n).length≤20:=by rw[Lib.decDigits_length];exact Lib.nDigits_le20 n (by omega)
 go_wp2_with fail
 refine HI.out.mono ?_
 rintro e w2 ⟨rfl,n2⟩
 have N2:=zH (HN1.out.trans n2)
 have B2:=zH (n2.at_ HB1.out)
 have HSL:Hid ((segName n).length≤9223372036854775807):=zH (by
  have:=Lib.decDigits_length n
  have:=Lib.nDigits_le20 n (by omega)
  simp only[segName,List.length_cons];omega)
 clear n2 HI
 have HBG:Hid (∀r:Dsk×Int,d.begun n=r→True):=zH (fun _ _=>trivial)
 obtain⟨r,hres⟩:=zN (d.begun n)
 have E:=zH hres
 clear hres HBG
 obtain⟨sn,hsn⟩:=zN (segName n)
 rw[hsn]at hcat HSL
 have ES:=zH hsn
 clear hsn
 have HCAT:=zH hcat
 clear hcat
 go_wp2_with fail
 simp only[HCAT.out]
 refine (Head_ok n hn _).mono ?_
 rintro e w3 ⟨v3,rfl,q1,q2,q3⟩
 have HHL:Hid ((headB n).length≤18):=zH (headB_len (by omega))
 obtain⟨m,hm⟩:=zN (headB n)
 rw[hm]at q1 HHL
 have EM:=zH hm
 clear hm hdl
 obtain⟨xa,xc,rfl,-⟩:=q1.len
 have n23:Nw w2 w3:=((Nw.refl w2).alloc (.cells #[.string ⟨sn.toArray⟩] 9 (0,0))).trans q2
 have B7:=zH (q2.at_ (heap_alloc_new w2 (.cells #[.string ⟨sn.toArray⟩] 9 (0,0))))
 have Q:=zH (And.intro q1 (And.intro (N2.out.trans n23) (fun g hg=>by
  have h1:=q3 g hg
  have h2:=N2.out.size
  simp only[World.size_alloc]at h1
  show w.heap.size≤g
  omega)))
 have B3:=zH (n23.at_ B2.out)
 clear q1 q2 q3 n23
 go_wp2_with fail
 have hw3:w2.heap.size<w3.heap.size:=lt_of_block B7.out
 have hw2:w.heap.size<w2.heap.size:=lt_of_block B2.out
 have n4:=((Nw.refl w3).alloc (.cells #[.slice xa m.length xc] 79 (0,0))).alloc (.cells #[.func (.func 112) #[] #[.pointer (some ⟨w.heap.size,0,none⟩),.pointer (some ⟨w2.heap.size,0,none⟩)],.func (.func 114) #[] #[.pointer (some ⟨w.heap.size,0,none⟩),.pointer (some ⟨w2.heap.size,0,none⟩),.pointer (some ⟨w3.heap.size,0,none⟩)],.func (.func 115) #[] #[.pointer (some ⟨w.heap.size,0,none⟩),.pointer (some ⟨w2.heap.size,0,none⟩)]] 69 (0,0))
 have b5:((w3.alloc (.cells #[.slice xa m.length xc] 79 (0,0))).alloc (.cells #[.func (.func 112) #[] #[.pointer (some ⟨w.heap.size,0,none⟩),.pointer (some ⟨w2.heap.size,0,none⟩)],.func (.func 114) #[] #[.pointer (some ⟨w.heap.size,0,none⟩),.pointer (some ⟨w2.heap.size,0,none⟩),.pointer (some ⟨w3.heap.size,0,none⟩)],.func (.func 115) #[] #[.pointer (some ⟨w.heap.size,0,none⟩),.pointer (some ⟨w2.heap.size,0,none⟩)]] 69 (0,0))).heap[w3.heap.size]? = some (.cells #[.slice xa m.length xc] 79 (0,0)):=
  (heap_alloc_old _ _ (by simp)).trans (heap_alloc_new w3 _)
 have b6:=heap_alloc_new (w3.alloc (.cells #[.slice xa m.length xc] 79 (0,0))) (.cells #[.func (.func 112) #[] #[.pointer (some ⟨w.heap.size,0,none⟩),.pointer (some ⟨w2.heap.size,0,none⟩)],.func (.func 114) #[] #[.pointer (some ⟨w.heap.size,0,none⟩),.pointer (some ⟨w2.heap.size,0,none⟩),.pointer (some ⟨w3.heap.size,0,none⟩)],.func (.func 115) #[] #[.pointer (some ⟨w.heap.size,0,none⟩),.pointer (some ⟨w2.heap.size,0,none⟩)]] 69 (0,0))
 rw[World.size_alloc]at b6
 generalize (w3.alloc (.cells #[.slice xa m.length xc] 79 (0,0))).alloc (.cells #[.func (.func 112) #[] #[.pointer (some ⟨w.heap.size,0,none⟩),.pointer (some ⟨w2.heap.size,0,none⟩)],.func (.func 114) #[] #[.pointer (some ⟨w.heap.size,0,none⟩),.pointer (some ⟨w2.heap.size,0,none⟩),.pointer (some ⟨w3.heap.size,0,none⟩)],.func (.func 115) #[] #[.pointer (some ⟨w.heap.size,0,none⟩),.pointer (some ⟨w2.heap.size,0,none⟩)]] 69 (0,0))=w4 at n4 b5 b6 ⊢
 have b4:=n4.at_ B3.out
 have b7:=n4.at_ B7.out
 have hn4:Nw w w4:=Q.out.2.1.trans n4
 have hs4:w3.heap.size+1<w4.heap.size:=lt_of_block b6
 obtain⟨Y,hY⟩:∃Y:Nat→Prop,Y=fun k=>X k∨w.heap.size≤k∧k<w4.heap.size:=⟨_,rfl⟩
 have y1:Y w.heap.size:=by rw[hY];exact .inr ⟨Nat.le_refl _,by omega⟩
 have y2:Y w2.heap.size:=by rw[hY];exact .inr ⟨by omega,by omega⟩
 have y5:Y w3.heap.size:=by rw[hY];exact .inr ⟨by omega,by omega⟩
 have y3:Y (w3.heap.size+1):=by rw[hY];exact .inr ⟨by omega,by omega⟩
 have y4:∀g,(Value.slice xa m.length xc).ownBlock=some g→Y g:=fun g hg=>by
  have:=Q.out.1.lt g hg
  rw[hY];exact .inr ⟨Q.out.2.2 g hg,by omega⟩
 have hx4:HasX Y w0 w4 b d:=H.out.nwY hn4 (fun k hk=>by rw[hY]at hk;exact hk)
 have hXY:∀k,X k→Y k:=fun k hk=>by rw[hY];exact .inl hk
 have cA:∀W,Kept Y w4 W→W.cell? ⟨w.heap.size,0,none⟩=some (.pointer (some ⟨b,0,none⟩)):=fun W hk=>by
  have:=(hk.2 _ y1 (by omega)).trans b4
  simp[World.cell?,this]
 have cN:∀W,Kept Y w4 W→W.cell? ⟨w2.heap.size,0,none⟩=some (.string ⟨sn.toArray⟩):=fun W hk=>by
  have:=(hk.2 _ y2 (by omega)).trans b7
  simp[World.cell?,this]
 have cB:∀W,Kept Y w4 W→W.cell? ⟨w3.heap.size,0,none⟩=some (.slice xa m.length xc):=fun W hk=>by
  have:=(hk.2 _ y5 (by omega)).trans b5
  simp[World.cell?,this]
 have cR:∀W,Kept Y w4 W→W.heap[w3.heap.size+1]? = _:=fun W hk=>(hk.2 _ y3 hs4).trans b6
 have hbs:∀W,Kept Y w4 W→Bs W (.slice xa m.length xc) m:=fun W hk=>((Q.out.1.nw n4).rd).kept hk (fun _ g hg=>y4 g hg)
 have hr:r=d.fresh sn m:=by rw[←E.out,←ES.out,←EM.out];rfl
 have hST:=steps_ok (w:=w4) [(112,#[.pointer (some ⟨w.heap.size,0,none⟩),.pointer (some ⟨w2.heap.size,0,none⟩)]),(114,#[.pointer (some ⟨w.heap.size,0,none⟩),.pointer (some ⟨w2.heap.size,0,none⟩),.pointer (some ⟨w3.heap.size,0,none⟩)]),(115,#[.pointer (some ⟨w.heap.size,0,none⟩),.pointer (some ⟨w2.heap.size,0,none⟩)])]
  (Chain Y w0 w4 b d sn m) (fun x W=>Kept Y w4 W∧HasX Y w0 W b r.1∧x=r.2) (w3.heap.size+1) 0 3 (by simp)
  (fun i hi=>by
   have:i=0∨i=1∨i=2:=by simp at hi;omega
   rcases this with rfl|rfl|rfl
   ·exact enters_of Tryz.func112 (by kernel_rfl) (by kernel_rfl)
   ·exact enters_of Tryz.func114 (by kernel_rfl) (by kernel_rfl)
   ·exact enters_of Tryz.func115 (by kernel_rfl) (by kernel_rfl))
  (fun i W hS j hj=>by
   have hb:=cR W hS.1
   have:j=0∨j=1∨j=2:=by simp at hj;omega
   rcases this with rfl|rfl|rfl <;> simp[World.cell?,hb,fnV])
  (fun i hi W hS=>by
   have hk:=hS.1
   have:i=0∨i=1∨i=2:=by simp at hi;omega
   rcases this with rfl|rfl|rfl
   ·refine (begin1_ok hS.2 w.heap.size w2.heap.size sn (cA W hk) (cN W hk)).mono fun e W' hd=>zero_or hd (fun z hx hkk=>⟨hk.trans hkk,z,hx⟩) (fun z hx hkk=>⟨hk.trans hkk,?_⟩)
    rw[hr,fresh_1 z]
    exact⟨hx,rfl⟩
   ·obtain⟨z1,hx1⟩:=hS.2
    refine (begin2_ok hx1 w.heap.size w2.heap.size w3.heap.size sn (cA W hk) (cN W hk) HSL.out (cB W hk) (hbs W hk) y4 (by have:=HHL.out;omega)).mono fun e W' hd=>zero_or hd (fun z hx hkk=>⟨hk.trans hkk,z1,z,hx⟩) (fun z hx hkk=>⟨hk.trans hkk,?_⟩)
    rw[hr,fresh_2 z1 z]
    exact⟨hx,rfl⟩
   ·obtain⟨z1,z2,hx1⟩:=hS.2
    refine (begin3_ok hx1 w.heap.size w2.heap.size sn (cA W hk) (cN W hk)).mono fun e W' hd=>zero_or hd (fun z hx hkk=>⟨hk.trans hkk,by rw[fresh_3 z1 z2];exact⟨z,hx⟩⟩) (fun z hx hkk=>⟨hk.trans hkk,?_⟩)
    rw[hr,fresh_3 z1 z2]
    exact⟨hx,rfl⟩)
  ⟨Kept.refl w4,hx4⟩
 have hend:∀x W,((x=0∧Chain Y w0 w4 b d sn m 3 W)∨(x≠0∧(Kept Y w4 W∧HasX Y w0 W b r.1∧x=r.2)))→x=r.2∧HasX X w0 W b r.1∧Kept X w W∧W.cell? ⟨w2.heap.size,0,none⟩=some (.string ⟨sn.toArray⟩)∧W.cell? ⟨w3.heap.size,0,none⟩=some (.slice xa m.length xc):=fun x W hc=>by
  rcases hc with ⟨rfl,hk,z1,hx⟩|⟨hx,hk,hh,rfl⟩
  ·rw[hr]
   exact⟨z1.symm,hx.weak hXY,hn4.kept.trans (hk.weak hXY),cN W hk,cB W hk⟩
  ·exact⟨rfl,hh.weak hXY,hn4.kept.trans (hk.weak hXY),cN W hk,cB W hk⟩
 have HEND:=zH hend
 have HST:=zH hST
 clear hend hST cA cB cN cR hbs hx4 hXY y1 y2 y3 y4 y5 hY b4 b5 b6 b7 n4 hs4 hw2 hw3 hr
 refine HST.out.mono ?_
 rintro e w5 ⟨x,rfl,hc⟩
 obtain⟨e1,e2,e3,c1,c2⟩:=HEND.out x w5 hc
 have Z:=zH (And.intro e2 e3)
 clear hc e2 e3 HST HEND
 subst e1
 go_upto_region 5 with fail
 have g1:=cellG c1
 have g2:=cellG c2
 refine wp_region_quiet_below (by kernel_rfl) (by kernel_rfl) ?_
 repeat (first|go_big_quiet_step (fail)|quiet_step (fail))
 refine wpQuiet_nil ?_
 intro w6 hw6
 have N6:=zH (Nw.of_regrown hw6)
 clear hw6 g1 g2 c1 c2
 go_wp2
 refine bodyPost_ret (v:=.tuple #[.string ⟨sn.toArray⟩,.int .i64 m.length,.int .i64 r.2]) (by simp[results,Tryz.results67,go_sem]) rfl ?_
 unfold Begun
 rw[E.out,ES.out,EM.out]
 exact⟨rfl,Z.out.1.nw N6.out,Z.out.2.trans N6.out.kept⟩
end
structure LogM (w:World) (p b:Nat) (L:Lg) (g o cap:Nat):Prop where
 blk:w.heap[p]? = some (.cells #[.pointer (some ⟨b,0,none⟩),.int .i64 L.size,.slice (some ⟨g,o,none⟩) L.l.length cap,.int .i64 L.n,.int .i64 L.acked,.int .i64 L.bytes,.bool L.over] 116 (0,0))
 pcs:Pcs w (.slice (some ⟨g,o,none⟩) L.l.length cap) L.l
 some_:L.l≠[]
structure HasLG (X:Nat→Prop) (w0 w:World) (p b:Nat) (d:Dsk) (L:Lg) (g o cap:Nat):Prop where
 mem:LogM w p b L g o cap
 disk:HasX (fun k=>X k∨k=p∨k=g) w0 w b d
 p0:w0.heap.size≤p
 p1:¬ X p
 g0:w0.heap.size≤g
 g1:g≠p∧¬ X g
def HasL (X:Nat→Prop) (w0 w:World) (p b:Nat) (d:Dsk) (L:Lg):Prop:=∃g o cap,HasLG X w0 w p b d L g o cap
def DidL (X:Nat→Prop) (w0 w:World) (p b:Nat) (d':Dsk) (L':Lg) (v:Value) (e:Ending) (w':World):Prop:=e=.returned v∧HasL X w0 w' p b d' L'∧Kept X w w'
section
variable {X Y:Nat→Prop}{w0 w w':World}{p b:Nat}{d d':Dsk}{L:Lg}{g o cap:Nat}
theorem LogM.cells (h:LogM w p b L g o cap):w.cell? ⟨p,0,none⟩=some (.pointer (some ⟨b,0,none⟩))∧w.cell? ⟨p,1,none⟩=some (.int .i64 L.size)∧w.cell? ⟨p,2,none⟩=some (.slice (some ⟨g,o,none⟩) L.l.length cap) ∧
  w.cell? ⟨p,3,none⟩=some (.int .i64 L.n)∧w.cell? ⟨p,4,none⟩=some (.int .i64 L.acked)∧w.cell? ⟨p,5,none⟩=some (.int .i64 L.bytes)∧w.cell? ⟨p,6,none⟩=some (.bool L.over)∧∀i,w.frozen? ⟨p,i,none⟩=false:=by
 have:=h.blk
 simp[World.cell?,World.frozen?,this]
theorem lastP_at {l:List Pc}(h:l≠[]):l[l.length-1]'(by have:=List.length_pos_iff.2 h;omega)=lastP l:=by
 simp only[lastP,List.getLastD_eq_getLast?,List.getLast?_eq_some_getLast h,Option.getD_some,List.getLast_eq_getElem]
theorem LogM.last (h:LogM w p b L g o cap):w.cell? ⟨g,o+(L.l.length-1)*4,none⟩=some (.string ⟨(lastP L.l).name.toArray⟩)∧w.cell? ⟨g,o+(L.l.length-1)*4+1,none⟩=some (.int .i64 (lastP L.l).first) ∧
  w.cell? ⟨g,o+(L.l.length-1)*4+2,none⟩=some (.int .i64 (lastP L.l).count)∧w.cell? ⟨g,o+(L.l.length-1)*4+3,none⟩=some (.bool (lastP L.l).dense)∧g<w.heap.size∧0<L.l.length∧L.l.length≤maxLen:=by
 have hp:=List.length_pos_iff.2 h.some_
 obtain⟨a,c,he,h1,h2,hel⟩:=h.pcs.elem
 injection he with ea eb ec
 obtain⟨g',o',e,hg,c0,c1,c2,c3⟩:=hel (L.l.length-1) (by omega)
 rw[←ea]at e
 injection e with e
 injection e with e1 e2
 subst e1 e2
 rw[lastP_at h.some_]at c0 c1 c2 c3
 exact⟨c0,c1,c2,c3,hg,hp,by omega⟩
theorem LogM.kept (h:LogM w p b L g o cap) (hk:Kept Y w w') (hp:Y p) (hg:Y g):LogM w' p b L g o cap:=by
 refine⟨(hk.2 p hp (lt_of_block h.blk)).trans h.blk,⟨?_,h.pcs.ok⟩,h.some_⟩
 obtain⟨e,⟨a,hv,hn⟩|⟨g',o',cap',hv,h1,h2,h3,h4⟩⟩:=h.pcs.src
 ·exact⟨e,.inl ⟨a,hv,hn⟩⟩
 ·injection hv with ea eb ec
  injection ea with ea
  injection ea with e1 e2
  subst e1 e2 ec
  exact⟨e,.inr ⟨g,o,cap,rfl,h1,h2,Nat.lt_of_lt_of_le h3 hk.1,fun j hj=>hk.cell (h4 j hj) hg⟩⟩
theorem HasLG.disk' (h:HasLG X w0 w p b d L g o cap) (hd:HasX (fun k=>X k∨k=p∨k=g) w0 w' b d') (hk:Kept (fun k=>X k∨k=p∨k=g) w w'):HasLG X w0 w' p b d' L g o cap:=
 ⟨h.mem.kept hk (.inr (.inl rfl)) (.inr (.inr rfl)),hd,h.p0,h.p1,h.g0,h.g1⟩
theorem HasLG.nw (h:HasLG X w0 w p b d L g o cap) (hw:Nw w w'):HasLG X w0 w' p b d L g o cap:=h.disk' (h.disk.nw hw) hw.kept
theorem HasL.nw (h:HasL X w0 w p b d L) (hw:Nw w w'):HasL X w0 w' p b d L:=by
 obtain⟨g,o,cap,h⟩:=h
 exact⟨g,o,cap,h.nw hw⟩
theorem HasL.has (h:HasL X w0 w p b d L):HasX X w0 w b d:=by
 obtain⟨g,o,cap,h⟩:=h
 exact h.disk.weak fun k hk=>.inl hk
theorem HasLG.put (h:HasLG X w0 w p b d L g o cap) (L':Lg){W:World}(ho:Only (fun k=>k=p) w W) (hb:W.heap[p]? = some (.cells #[.pointer (some ⟨b,0,none⟩),.int .i64 L'.size,.slice (some ⟨g,o,none⟩) L'.l.length cap,.int .i64 L'.n,.int .i64 L'.acked,.int .i64 L'.bytes,.bool L'.over] 116 (0,0)))
  (hl:L'.l=L.l):HasLG X w0 W p b d L' g o cap∧Kept X w W:=by
 have hg:∀a:Addr,a.block=g→∀u,w.cell? a=some u→W.cell? a=some u:=fun a ha u hu=>ho.cell hu (by rw[ha];exact h.g1.1)
 refine⟨⟨⟨hb,⟨?_,by rw[hl];exact h.mem.pcs.ok⟩,by rw[hl];exact h.mem.some_⟩,h.disk.put ho (fun k hk _=>by subst hk;exact⟨.inr (.inl rfl),h.p0⟩) (fun k hk=>.inl hk),h.p0,h.p1,h.g0,h.g1⟩,ho.size,fun k hk hlt=>ho.block k hlt (fun e=>h.p1 (e▸hk))⟩
 rw[hl]
 obtain⟨e,⟨a,hv,hn⟩|⟨g',o',cap',hv,h1,h2,h3,h4⟩⟩:=h.mem.pcs.src
 ·exact⟨e,.inl ⟨a,hv,hn⟩⟩
 ·injection hv with ea eb ec
  injection ea with ea
  injection ea with e1 e2
  subst e1 e2 ec
  exact⟨e,.inr ⟨g,o,cap,rfl,h1,h2,Nat.lt_of_lt_of_le h3 ho.size,fun j hj=>hg _ rfl _ (h4 j hj)⟩⟩
theorem lup_ok (h:LogM w p b L g o cap):Calls Tryz.prog 71 #[.pointer (some ⟨p,0,none⟩)] w fun e w'=>e=.returned (.int .i64 (if L.over then 16 else 0))∧w=w':=by
 obtain⟨c0,-,-,-,-,-,c6,-⟩:=h.cells
 have hp:=lt_of_block h.blk
 clear h
 cases hov:L.over
 all_goals
  rw[hov]at c6
  clear hov
  go_enter Tryz.func71,Tryz.ntmps71
  go_wp2
  go_ret
  exact⟨rfl,rfl⟩
theorem lends_ok (h:HasLG X w0 w p b d L g o cap) (x:Int):Calls Tryz.prog 75 #[.pointer (some ⟨p,0,none⟩),.int .i64 x] w (DidL X w0 w p b d { L with over:=decide (x≠0) } (.int .i64 x)):=by
 obtain⟨-,-,-,-,-,-,c6,cf⟩:=h.mem.cells
 have f6:=cf 6
 have H:=zH h
 clear h cf
 go_enter Tryz.func75,Tryz.ntmps75
 go_wp2
 go_ret
 have hb:=heap_setCell_at H.out.mem.blk 6 (.bool (x !=0))
 have hq:(decide (x≠0))=(x !=0):=by simp[bne,BEq.beq]
 have:=H.out.put { L with over:=decide (x≠0) } (W:=w.setCell ⟨p,6,none⟩ (.bool (x !=0))) (Only.setCell (S:=fun k=>k=p) (p:=⟨p,6,none⟩) (Only.refl w) (fun _=>rfl) _) (by rw[hb,hq];rfl) rfl
 exact⟨rfl,⟨g,o,cap,this.1⟩,this.2⟩
theorem lopen_ok (h:LogM w p b L g o cap):Calls Tryz.prog 73 #[.pointer (some ⟨p,0,none⟩)] w fun e w'=>e=.returned (.pointer (some ⟨g,o+(L.l.length-1)*4,none⟩))∧Nw w w':=by
 obtain⟨-,-,c2,-⟩:=h.cells
 have hp:=lt_of_block h.blk
 obtain⟨-,-,-,-,hg,hl0,hl1⟩:=h.last
 obtain⟨n,hn⟩:=zN (L.l.length)
 rw[hn]at c2 hl0 hl1 ⊢
 have g2:=cellG c2
 have hmx:n≤9223372036854775807:=by unfold maxLen at hl1;omega
 clear h hn hl1
 obtain⟨m,rfl⟩:∃m,n=m+1:=⟨n-1,by omega⟩
 have hw1:IntKind.i64.wrap (((m+1:Nat):Int)-1)=(m:Int):=by rw[IntWalk.i64_in _ (by omega)];omega
 have hw2:((m+1:Nat):Int)-1=(m:Int):=by omega
 go_enter Tryz.func73,Tryz.ntmps73
 go_upto_region 1 with fail
 refine wp_region_quiet_below (by kernel_rfl) (by kernel_rfl) ?_
 repeat (first|go_big_quiet_step (fail)|quiet_step (fail))
 refine wpQuiet_nil ?_
 intro w6 hw6
 have N6:=zH (Nw.of_regrown hw6)
 clear hw6
 go_wp2
 go_ret
 exact⟨rfl,N6.out⟩
theorem Len_ok (h:LogM w p b L g o cap):Calls Tryz.prog 19 #[.pointer (some ⟨p,0,none⟩)] w fun e w'=>e=.returned (.int .i64 L.n)∧w=w':=by
 obtain⟨-,-,-,c3,-⟩:=h.cells
 have hp:=lt_of_block h.blk
 clear h
 go_enter Tryz.func19,Tryz.ntmps19
 go_wp2
 go_ret
 exact⟨rfl,rfl⟩
theorem Acked_ok (h:LogM w p b L g o cap):Calls Tryz.prog 20 #[.pointer (some ⟨p,0,none⟩)] w fun e w'=>e=.returned (.int .i64 L.acked)∧w=w':=by
 obtain⟨-,-,-,-,c4,-⟩:=h.cells
 have hp:=lt_of_block h.blk
 clear h
 go_enter Tryz.func20,Tryz.ntmps20
 go_wp2
 go_ret
 exact⟨rfl,rfl⟩
theorem infoPc:(Tryz.prog.info? 98).map (fun i=>(i.zero,i.size,i.bytes))=some (some (.agg #[.string ⟨#[]⟩,.int .i64 0,.int .i64 0,.bool false]),4,40):=by kernel_rfl
theorem pcV_one (l:List Pc):∀u∈l.flatMap pcV,u.oneCell'=true:=fun u hu=>by
 obtain⟨q,-,hq⟩:=List.mem_flatMap.1 hu
 simp only[pcV,List.mem_cons,List.not_mem_nil,or_false]at hq
 rcases hq with rfl|rfl|rfl|rfl <;> rfl
def CloneP (w:World) (l:List Pc) (e:Ending) (w':World):Prop:=∃v',e=.returned v'∧Vec 4 w' v' l.length (l.flatMap pcV)∧Nw w w'∧∀g,v'.ownBlock=some g→w.heap.size≤g
theorem eqlPcs (w:World) (a:Option Addr) (n c:Nat):(binOp .eql 32 (.slice a n c) (.slice none 0 0)).run Tryz.prog w=.ok (.bool a.isNone) w:=
 Lib.run_eql_slice_nil w _ _ a n c 0 0 Tryz.underlying32
theorem PClone_ok {v:Value}{l:List Pc}(hv:Pcs w v l) (hl:l.length≤1000000) :
  Calls Tryz.prog 63 #[v] w (CloneP w l):=by
 obtain⟨i0,hi,hz0,hz1,hz2⟩:=info_parts infoPc
 have HI:=zH hi
 have HZ0:=zH hz0
 have HZ1:=zH hz1
 have HZ2:=zH hz2
 clear hi hz0 hz1 hz2
 have HV:=zH hv
 obtain⟨a,cap,rfl,hc,-,hel⟩:=hv.elem
 have hq:=eqlPcs w a l.length cap
 cases a with
 |none =>
  have hl0:l.length=0:=by
   rcases Nat.eq_zero_or_pos l.length with h|h
   ·exact h
   ·obtain⟨g,o,e,-⟩:=hel 0 h
    cases e
  have hnil:l=[]:=List.eq_nil_of_length_eq_zero hl0
  subst hnil
  clear hv hel hq HV
  have hq:=eqlPcs w none 0 cap
  simp only[Option.isNone_none]at hq
  show Calls _ _ #[.slice none 0 cap] _ _
  go_enter Tryz.func63,Tryz.ntmps63
  go_wp2
  go_ret
  exact⟨_,rfl,Vec.nil,Nw.refl _,fun g hg=>by cases hg⟩
 |some a =>
  clear hv hel
  have hn0:=(Nw.refl w).alloc (.cells #[] 98 (0,0))
  have V0:=zH (vec_lit w 98 4 0 [] #[] (0,0) rfl rfl (by decide) (fun j hj=>by omega))
  have S0:=zH (HV.out.nw hn0).src
  go_enter Tryz.func63,Tryz.ntmps63
  go_wp2_with (at_builtin;refine wpList_append_vec rfl _ _ 32 rfl 98 i0 (.agg #[.string ⟨#[]⟩,.int .i64 0,.int .i64 0,.bool false]) 4 40 Tryz.underlying32 HI.out HZ0.out HZ1.out HZ2.out rfl (by decide) rfl rfl V0.out S0.out ?c1 ?c2 ?c3 ?_)
  case c1=>exact pcV_one l
  case c2=>unfold maxLen;omega
  case c3=>omega
  intro v1 w1 q1 q2 q3
  have Q:Hid (CloneP w l (.returned v1) w1):=zH (by
   refine⟨v1,rfl,?_,hn0.trans' q2 (fun k hk hc=>?_),fun g hg=>?_⟩
   ·simpa using q1
   ·have e:w.heap.size=k:=by simpa [Value.ownBlock] using hc
    omega
   ·rcases q3 with h|h
    ·rw[h]at hg
     have e:w.heap.size=g:=by simpa [Value.ownBlock] using hg
     omega
    ·have:=h g hg
     omega)
  clear q1 q2 q3 hn0
  go_wp2
  go_ret
  exact Q.out
theorem Vec.pcs {v:Value}{l:List Pc}(h:Vec 4 w v l.length (l.flatMap pcV)) (ho:∀q∈l,q.Ok):Pcs w v l:=⟨h.src,ho⟩
theorem Pieces_ok (h:LogM w p b L g o cap) (hl:L.l.length≤1000000):Calls Tryz.prog 21 #[.pointer (some ⟨p,0,none⟩)] w (CloneP w L.l):=by
 obtain⟨-,-,c2,-⟩:=h.cells
 have hp:=lt_of_block h.blk
 have HC:=zH (PClone_ok h.pcs hl)
 clear h
 go_enter Tryz.func21,Tryz.ntmps21
 go_wp2_with fail
 refine HC.out.mono ?_
 rintro e w1 ⟨v,rfl,q⟩
 have Q:=zH q
 clear q
 go_wp2
 go_ret
 exact⟨_,rfl,Q.out⟩
end
theorem infoEv:(Tryz.prog.info? 87).map (fun i=>(i.zero,i.size,i.bytes))=some (some (.agg #[.int .i64 0,.int .u8 0,.int .i64 0,.int .i64 0,.int .i64 0]),5,40):=by kernel_rfl
theorem evV_one (l:List Ev):∀u∈l.flatMap evV,u.oneCell'=true:=fun u hu=>by
 obtain⟨q,-,hq⟩:=List.mem_flatMap.1 hu
 simp only[evV,List.mem_cons,List.not_mem_nil,or_false]at hq
 rcases hq with rfl|rfl|rfl|rfl|rfl <;> rfl
theorem evs_len:∀l:List Ev,(l.flatMap evV).length=l.length*5
 |[]=>rfl
 |e::l=>by rw[List.flatMap_cons,List.length_append,evs_len l,List.length_cons];simp[evV];omega
def OwnE (w w':World) (v:Value) (l:List Ev):Prop:=Vec 5 w' v l.length (l.flatMap evV)∧Nw w w'∧∀g,v.ownBlock=some g→w.heap.size≤g
theorem EEvents_ok {w:World}{v:Value}{l:List UInt8}(hv:Bs w v l){r:List Ev}{ok:Bool}(hr:eventsB l=(r,ok)) :
  Calls Tryz.prog 216 #[v] w fun z w'=>∃v',z=.returned (.tuple #[v',.bool ok])∧(ok=true→OwnE w w' v' r)∧Nw w w':=by
 obtain⟨a,cap,rfl,h1,h2,-⟩:=hv.elems
 have hmax:l.length≤9223372036854775807:=by unfold maxLen at h2;omega
 obtain⟨⟨n,x,e⟩,hu⟩:=zN (getU l 0)
 have HU:=zH (GetUint_ok hv 0 ⟨by omega,by omega⟩ hu)
 have hf:=getU_fine (b:=l) (at_:=0)
 unfold eventsB at hr
 rw[hu]at hf hr
 simp only at hf hr
 have HV:=zH hv
 clear hv h1 h2 hu
 by_cases c0:e=0
 case neg =>
  have q1:(e !=0)=true:=by simpa using c0
  rw[if_pos (.inl c0)]at hr
  cases hr
  clear HV hf
  go_enter Tryz.func216,Tryz.ntmps216
  go_wp2_with fail
  refine HU.out.mono ?_
  rintro z w' ⟨rfl,rfl⟩
  go_wp2
  refine bodyPost_ret (v:=.tuple #[.slice none 0 0,.bool false]) (by simp[results,Tryz.results216,go_sem]) rfl ⟨_,rfl,(fun h=>by cases h),Nw.refl _⟩
 subst c0
 obtain⟨-,f1,f2,f3⟩:=hf rfl
 by_cases c1:n<1
 ·have q1:decide ((n:Int)<1)=true:=by simp;omega
  rw[if_pos (.inr (.inl c1))]at hr
  cases hr
  clear HV hf
  go_enter Tryz.func216,Tryz.ntmps216
  go_wp2_with fail
  refine HU.out.mono ?_
  rintro z w' ⟨rfl,rfl⟩
  go_wp2
  refine bodyPost_ret (v:=.tuple #[.slice none 0 0,.bool false]) (by simp[results,Tryz.results216,go_sem]) rfl ⟨_,rfl,(fun h=>by cases h),Nw.refl _⟩
 by_cases c2:4096<n
 ·have q1:decide ((n:Int)<1)=false:=by simp;omega
  have q2:decide ((4096:Int)<(n:Int))=true:=by simp;omega
  rw[if_pos (.inr (.inr c2))]at hr
  cases hr
  clear HV hf
  go_enter Tryz.func216,Tryz.ntmps216
  go_wp2_with fail
  refine HU.out.mono ?_
  rintro z w' ⟨rfl,rfl⟩
  go_wp2
  refine bodyPost_ret (v:=.tuple #[.slice none 0 0,.bool false]) (by simp[results,Tryz.results216,go_sem]) rfl ⟨_,rfl,(fun h=>by cases h),Nw.refl _⟩
 have q1:decide ((n:Int)<1)=false:=by simp;omega
 have q2:decide ((4096:Int)<(n:Int))=false:=by simp;omega
 rw[if_neg (by omega)]at hr
 obtain⟨i0,hi,hz0,hz1,hz2⟩:=info_parts infoEv
 have HI:=zH hi
 have HZ0:=zH hz0
 have HZ1:=zH hz1
 have HZ2:=zH hz2
 clear hi hz0 hz1 hz2 hf
 have HR:=zH hr
 clear hr
 go_enter Tryz.func216,Tryz.ntmps216
 go_wp2_with fail
 refine HU.out.mono ?_
 rintro z w' ⟨rfl,rfl⟩
 go_wp2
 obtain⟨E,hE⟩:=zN (evsFrom l n x Ev.zero [])
 rw[hE]at HR
 have hzb:=heap_alloc_new w (.cells (evV Ev.zero).toArray 87 (0,0))
 have hzn:=(Nw.refl w).alloc (.cells (evV Ev.zero).toArray 87 (0,0))
 have HZB:=zH hzb
 have HZN:=zH hzn
 clear hzb hzn
 go_loopw [5,7,26] (fun av s i wr=>∃(j:Nat) (at_:Int) (y:Ev) (acc:List Ev),j≤n∧i=.int .u64 j∧av=.int .i64 at_∧in64 at_∧evsFrom l (n-j) at_ y acc=E∧Vec 5 wr s j (acc.flatMap evV)∧Nw w wr∧(∀g,s.ownBlock=some g→w.heap.size≤g∧g≠w.heap.size) ∧
  wr.heap[w.heap.size]? = some (.cells (evV y).toArray 87 (0,0))∧acc.length=j) (fun _ _ i _=>n-(intOf i).toNat)
 case atStart=>exact⟨0,x,Ev.zero,[],Nat.zero_le _,rfl,rfl,⟨by omega,by omega⟩,by simpa using hE,Vec.nil,HZN.out,(fun g hg=>by cases hg),HZB.out,rfl⟩
 case round =>
  obtain⟨j,at_,y,acc,hj,rfl,rfl,hat,hE1,hs,hw,hfr,hbox,hacc⟩:=hrel
  clear hE HZB HZN
  obtain⟨x0,x1,x2,x3,x4,-⟩:=evV_cells hbox
  have hbl:=lt_of_block hbox
  obtain⟨sa,sc,rfl,-⟩:=hs.len
  have HS:=zH (And.intro hs (And.intro hw (And.intro hfr hbox)))
  have HE:=zH hE1
  have HA:=zH hacc
  clear hs hw hfr hbox hE1 hacc
  by_cases hlt:j<n
  ·obtain⟨⟨e1,p1,y1⟩,hg⟩:=zN (getE l at_ y)
   have C:=EGet_ok (HV.out.nw HS.out.2.1) at_ hat y hg
   have C:=zH C
   have HF:=zH (getE_fine (b:=l) (at_:=at_) (x:=y))
   have HG:=zH hg
   unfold evV at C
   clear hg
   go_wp2_with fail
   refine C.out.mono ?_
   rintro z w2 ⟨rfl,n2⟩
   have hb2:=n2.at_ HS.out.2.2.2
   obtain⟨d0,d1,d2,d3,d4,df⟩:=evV_cells hb2
   have f0:=df 0
   have f1:=df 1
   have f2:=df 2
   have f3:=df 3
   have f4:=df 4
   have hbl2:=lt_of_block hb2
   have N2:=zH n2
   have HB2:=zH hb2
   clear df hb2 n2 C x0 x1 x2 x3 x4
   have hun:evsFrom l (n-j) at_ y acc=if y1≠0 then none else evsFrom l (n-(j+1)) p1 e1 (acc++[e1]):=by
    rw[show n-j=(n-(j+1))+1 by omega]
    conv=>lhs;unfold evsFrom
    rw[HG.out]
   have hun:=hun.symm.trans HE.out
   have HUN:=zH hun
   clear hun HE
   have ho5:=only_set5 w2 w.heap.size (.int .i64 e1.thread) (.int .u8 e1.op.toNat) (.int .i64 e1.obj) (.int .i64 e1.a) (.int .i64 e1.b)
   have hb5:=heap_set5 (w1:=w2) (p:=w.heap.size) (t:=87) HB2.out (.int .i64 e1.thread) (.int .u8 e1.op.toNat) (.int .i64 e1.obj) (.int .i64 e1.a) (.int .i64 e1.b)
   obtain⟨W3,hW3⟩:∃W,W=(((((w2.setCell ⟨w.heap.size,0,none⟩ (.int .i64 e1.thread)).setCell ⟨w.heap.size,1,none⟩ (.int .u8 e1.op.toNat)).setCell ⟨w.heap.size,2,none⟩ (.int .i64 e1.obj)).setCell ⟨w.heap.size,3,none⟩ (.int .i64 e1.a)).setCell ⟨w.heap.size,4,none⟩ (.int .i64 e1.b)):=⟨_,rfl⟩
   have N3:Hid (Nw w W3):=zH (by rw[hW3];exact (HS.out.2.1.trans N2.out).trans' ho5 (fun k hk hc=>by omega))
   by_cases hy:y1=0
   case neg =>
    have q3:(y1 !=0)=true:=by simpa using hy
    have r:=HUN.out
    rw[if_pos hy]at r
    have r2:=HR.out
    rw[←r]at r2
    cases r2
    rw[hW3]at N3
    clear r HUN ho5 hb5 hW3
    go_wp2
    refine bodyPost_ret (v:=.tuple #[.slice none 0 0,.bool false]) (by simp[results,Tryz.results216,go_sem]) rfl ⟨_,rfl,(fun h=>by cases h),N3.out⟩
   subst hy
   have r:=HUN.out
   rw[if_neg (by simp)]at r
   have HUN:=zH r
   clear r
   have S3:Hid (Vec 5 W3 (.slice sa j sc) j (acc.flatMap evV)):=zH (by
    rw[hW3]
    exact (HS.out.1.nw N2.out).keep ho5.size (fun g hg=>ho5.block g ((HS.out.1.nw N2.out).lt g hg) (HS.out.2.2.1 g hg).2))
   have B3:Hid (W3.heap[w.heap.size]? = some (.cells (evV e1).toArray 87 (0,0))):=zH (by rw[hW3];exact hb5)
   have HW3:=zH hW3
   clear ho5 hb5 hW3
   go_upto_region 9 with fail
   rw[←HW3.out]
   obtain⟨m0,m1,m2,m3,m4,-⟩:=evV_cells B3.out
   have hna:=(Nw.refl W3).alloc (.cells (evV e1).toArray 87 (0,0))
   have V4:=zH (S3.out.nw hna)
   have X4:=zH (src_lit W3 87 (0,0) 5 1 1 (evV e1) rfl (by omega) (by decide))
   have HNA:=zH hna
   have hbl3:=lt_of_block B3.out
   unfold evV at V4 X4
   clear hna d0 d1 d2 d3 d4 f0 f1 f2 f3 f4 HW3
   go_wp2_with (at_builtin;refine wpList_append_vec rfl _ _ 31 rfl 87 i0 (.agg #[.int .i64 0,.int .u8 0,.int .i64 0,.int .i64 0,.int .i64 0]) 5 40 Tryz.underlying31 HI.out HZ0.out HZ1.out HZ2.out rfl (by decide) rfl rfl V4.out X4.out ?c1 ?c2 ?c3 ?_)
   case c1=>exact fun u hu=>by simp only[List.mem_cons,List.not_mem_nil,or_false]at hu;rcases hu with rfl|rfl|rfl|rfl|rfl <;> rfl
   case c2=>unfold maxLen;omega
   case c3=>omega
   intro v5 w5 q5 q6 q7
   obtain⟨ta,tc,rfl,-⟩:=q5.len
   have Q:=zH (And.intro q5 (And.intro q6 q7))
   clear q5 q6 q7
   go_wp2
   go_roundw
   case rel =>
    have hs0:w.heap.size≤W3.heap.size:=N3.out.size
    have hfr:∀g,(Value.slice ta (j+1) tc).ownBlock=some g→w.heap.size≤g∧g≠w.heap.size:=fun g hg=>by
     rcases Q.out.2.2 with h|h
     ·exact HS.out.2.2.1 g (h▸hg)
     ·have h1:=h g hg
      have h2:=HNA.out.size
      omega
    have hnw:Nw w w5:=(N3.out.trans HNA.out).trans' Q.out.2.1 (fun g hg hc=>by have:=(HS.out.2.2.1 g hc).1;omega)
    refine⟨j+1,p1,e1,acc++[e1],by omega,by go_num,rfl,?_,HUN.out,?_,hnw,hfr,?_,by rw[List.length_append,HA.out];rfl⟩
    ·have:=HF.out (by rw[HG.out])
     rw[HG.out]at this
     simp only at this
     exact⟨by omega,by omega⟩
    ·have e:([e1]:List Ev).flatMap evV=evV e1:=by simp
     rw[List.flatMap_append,e]
     exact Q.out.1
    ·exact Q.out.2.1.at_ (HNA.out.at_ B3.out) (fun hc=>(HS.out.2.2.1 _ hc).2 rfl)
   case measure=>simp[intOf];omega
  ·obtain rfl:j=n:=by omega
   have r:=HE.out
   rw[Nat.sub_self]at r
   unfold evsFrom at r
   have r2:=HR.out
   rw[←r]at r2
   simp only[Prod.mk.injEq]at r2
   obtain⟨rfl,hok⟩:=r2
   have HOK:=zH hok
   clear r hok HE
   have hq:(at_==(l.length:Int))=ok:=by rw[←HOK.out];rfl
   go_wp2
   refine bodyPost_ret (v:=.tuple #[.slice sa j sc,.bool ok]) (by simp[results,Tryz.results216,go_sem]) rfl ⟨_,rfl,fun _=>⟨?_,HS.out.2.1,fun g hg=>(HS.out.2.2.1 g hg).1⟩,HS.out.2.1⟩
   rw[HA.out];exact HS.out.1
theorem OwnE.from {w W w':World}{v:Value}{l:List Ev}(hw:Nw w W) (h:OwnE W w' v l):OwnE w w' v l:=⟨h.1,hw.trans h.2.1,fun g hg=>Nat.le_trans hw.size (h.2.2 g hg)⟩
theorem ERead_ok {w:World}{v:Value}{l:List UInt8}(hv:Bs w v l) (hl:l.length≤90000000) (at_:Int) (ha:in64 at_){r:List Ev}{x e:Int}(hr:readFr l at_=(r,x,e)) :
  Calls Tryz.prog 189 #[v,.int .i64 at_] w fun z w'=>∃v',z=.returned (.tuple #[v',.int .i64 x,.int .i64 e])∧(e=0→OwnE w w' v' r)∧Nw w w':=by
 obtain⟨a,cap,rfl,h1,h2,-⟩:=hv.elems
 obtain⟨⟨n,y,e0⟩,hu⟩:=zN (getU l at_)
 have HU:=zH (GetUint_ok hv at_ ha hu)
 have hf:=getU_fine (b:=l) (at_:=at_)
 unfold readFr frameIn at hr
 rw[hu]at hf hr
 simp only at hf hr
 have HV:=zH hv
 clear hv h1 h2 hu ha
 by_cases c0:e0=0
 case neg =>
  have q1:(e0 !=0)=true:=by simpa using c0
  rw[if_pos c0]at hr
  obtain⟨rfl,rfl,rfl⟩:[]=r∧0=x∧e0=e:=by simpa using hr
  clear HV hf hr
  go_enter Tryz.func189,Tryz.ntmps189
  go_wp2_with fail
  refine HU.out.mono ?_
  rintro z w' ⟨rfl,rfl⟩
  go_wp2
  refine bodyPost_ret (v:=.tuple #[.slice none 0 0,.int .i64 0,.int .i64 e0]) (by simp[results,Tryz.results189,go_sem]) rfl ⟨_,rfl,(fun h=>absurd h c0),Nw.refl _⟩
 subst c0
 obtain⟨f0,f1,f2,f3⟩:=hf rfl
 rw[if_neg (by simp)]at hr
 clear hf
 obtain⟨k,rfl⟩:∃k:Nat,y=k:=⟨y.toNat,by omega⟩
 by_cases c1:262144<n
 ·have q1:decide ((262144:Int)<(n:Int))=true:=by simp;omega
  rw[if_pos c1]at hr
  obtain⟨rfl,rfl,rfl⟩:[]=r∧0=x∧3=e:=by simpa using hr
  clear HV hr
  go_enter Tryz.func189,Tryz.ntmps189
  go_wp2_with fail
  refine HU.out.mono ?_
  rintro z w' ⟨rfl,rfl⟩
  go_wp2
  refine bodyPost_ret (v:=.tuple #[.slice none 0 0,.int .i64 0,.int .i64 3]) (by simp[results,Tryz.results189,go_sem]) rfl ⟨_,rfl,(fun h=>absurd h (by decide)),Nw.refl _⟩
 rw[if_neg c1]at hr
 have q1:decide ((262144:Int)<(n:Int))=false:=by simp;omega
 have hsub:IntKind.i64.wrap ((l.length:Int)-(k:Int))=(l.length:Int)-(k:Int):=IntWalk.i64_in _ (by omega)
 have hmod:((l.length:Int)-(k:Int)) % 18446744073709551616=(l.length:Int)-(k:Int):=by omega
 have hadd:IntKind.u64.wrap ((n:Int)+4)=(n:Int)+4:=IntWalk.u64_in _ (by omega)
 by_cases c2:(l.length:Int)<(k:Int)+(n:Int)+4
 ·have q2:decide ((l.length:Int)-(k:Int)<(n:Int)+4)=true:=by simp;omega
  rw[if_pos c2]at hr
  obtain⟨rfl,rfl,rfl⟩:[]=r∧0=x∧11=e:=by simpa using hr
  clear HV hr
  go_enter Tryz.func189,Tryz.ntmps189
  go_wp2_with fail
  refine HU.out.mono ?_
  rintro z w' ⟨rfl,rfl⟩
  go_wp2
  refine bodyPost_ret (v:=.tuple #[.slice none 0 0,.int .i64 0,.int .i64 11]) (by simp[results,Tryz.results189,go_sem]) rfl ⟨_,rfl,(fun h=>absurd h (by decide)),Nw.refl _⟩
 rw[if_neg c2]at hr
 have q2:decide ((l.length:Int)-(k:Int)<(n:Int)+4)=false:=by simp;omega
 obtain⟨a2,c2',hb2,hl2,t1,t2⟩:=bs_lh HV.out k (k+n+4) (by omega) (by omega)
 rw[show k+n+4-k=n+4 by omega]at hb2 hl2 t1 t2
 simp only[Int.toNat_natCast]at hr
 rw[show ((k+n+4:Nat):Int)=(k:Int)+(n:Int)+4 by omega]at t1 t2
 have hw1:IntKind.i64.wrap ((k:Int)+(n:Int))=(k:Int)+(n:Int):=IntWalk.i64_in _ (by omega)
 have hw2:IntKind.i64.wrap ((k:Int)+(n:Int)+4)=(k:Int)+(n:Int)+4:=IntWalk.i64_in _ (by omega)
 have hw3:IntKind.i64.wrap (n:Int)=(n:Int):=IntWalk.i64_in _ (by omega)
 obtain⟨⟨u,e1⟩,hun⟩:=zN (unsealB ((l.drop k).take (n+4)))
 have HUN:=zH (Unseal_ok hb2 (by omega) hun)
 rw[hun]at hr
 simp only at hr
 clear hb2 hl2 hun HV
 by_cases c3:e1=0
 case neg =>
  have q3:(e1 !=0)=true:=by simpa using c3
  rw[if_pos c3]at hr
  obtain⟨rfl,rfl,rfl⟩:[]=r∧0=x∧e1=e:=by simpa using hr
  clear hr
  go_enter Tryz.func189,Tryz.ntmps189
  go_wp2_with fail
  refine HU.out.mono ?_
  rintro z w' ⟨rfl,rfl⟩
  go_wp2_with fail
  refine HUN.out.mono ?_
  rintro z w1 ⟨v1,rfl,-,n1⟩
  have N1:=zH n1
  clear n1
  go_wp2
  refine bodyPost_ret (v:=.tuple #[.slice none 0 0,.int .i64 0,.int .i64 e1]) (by simp[results,Tryz.results189,go_sem]) rfl ⟨_,rfl,(fun h=>absurd h c3),N1.out⟩
 subst c3
 rw[if_neg (by simp)]at hr
 obtain⟨⟨es,ok⟩,hev⟩:=zN (eventsB u)
 rw[hev]at hr
 simp only at hr
 have HEV:=zH hev
 clear hev
 cases ok
 case false =>
  obtain⟨rfl,rfl,rfl⟩:[]=r∧0=x∧10=e:=by simpa using hr
  clear hr
  go_enter Tryz.func189,Tryz.ntmps189
  go_wp2_with fail
  refine HU.out.mono ?_
  rintro z w' ⟨rfl,rfl⟩
  go_wp2_with fail
  refine HUN.out.mono ?_
  rintro z w1 ⟨v1,rfl,b1,n1⟩
  have C:=zH (EEvents_ok b1 HEV.out)
  obtain⟨xa,xc,rfl,-⟩:=b1.len
  have N1:=zH n1
  clear n1 b1
  go_wp2_with fail
  refine C.out.mono ?_
  rintro z w2 ⟨v2,rfl,-,n2⟩
  have N2:=zH (N1.out.trans n2)
  clear n2
  go_wp2
  refine bodyPost_ret (v:=.tuple #[.slice none 0 0,.int .i64 0,.int .i64 10]) (by simp[results,Tryz.results189,go_sem]) rfl ⟨_,rfl,(fun h=>absurd h (by decide)),N2.out⟩
 case true =>
  obtain⟨rfl,rfl,rfl⟩:es=r∧(k:Int)+(n:Int)+4=x∧0=e:=by simpa using hr
  clear hr
  go_enter Tryz.func189,Tryz.ntmps189
  go_wp2_with fail
  refine HU.out.mono ?_
  rintro z w' ⟨rfl,rfl⟩
  go_wp2_with fail
  refine HUN.out.mono ?_
  rintro z w1 ⟨v1,rfl,b1,n1⟩
  have C:=zH (EEvents_ok b1 HEV.out)
  obtain⟨xa,xc,rfl,-⟩:=b1.len
  have N1:=zH n1
  clear n1 b1
  go_wp2_with fail
  refine C.out.mono ?_
  rintro z w2 ⟨v2,rfl,o2,n2⟩
  have O2:=zH (OwnE.from N1.out (o2 (by first|rfl|trivial)))
  have N2:=zH (N1.out.trans n2)
  clear n2 o2
  go_wp2
  refine bodyPost_ret (v:=.tuple #[v2,.int .i64 ((k:Int)+(n:Int)+4),.int .i64 0]) (by simp[results,Tryz.results189,go_sem]) rfl ⟨_,rfl,fun _=>O2.out,N2.out⟩
end Go.Proofs.YtkbenkldfehhlaaGreatDoor
