/-
  Texts merged by a program of this claim's: Ref02B, Ref02C.
-/
import Derived.Test.YtkbenkldfehhlaaGreatDoorM12
import Derived.Sort.Walk0
import Derived.Laws.Cover1
namespace Go.Proofs.YtkbenkldfehhlaaGreatDoor
open Go Go.RowKit Go.Sort
set_option maxRecDepth 100000
set_option maxHeartbeats 1600000
section
variable {X:Nat→Prop}
theorem u8s_one (l:List UInt8):∀u∈l.map u8,u.oneCell'=true:=by
 intro u hu
 obtain⟨c,-,rfl⟩:=List.mem_map.1 hu
 rfl
theorem joined_ok {w:World}{va vb:Value}{a b:List UInt8}(ha:Bs w va a) (hb:Bs w vb b) (hl:a.length+b.length≤140737488355328) :
  Calls Tryz.prog 83 #[va,vb] w fun e w'=>∃v',e=.returned v'∧Vec 1 w' v' (a++b).length ((a++b).map u8)∧Nw w w'∧∀g,v'.ownBlock=some g→w.heap.size≤g:=by
 obtain⟨i0,hi,hz0,hz1,hz2⟩:=info_parts Tryz.infoByte
 have HI:=zH hi
 have HZ0:=zH hz0
 have HZ1:=zH hz1
 have HZ2:=zH hz2
 have HA:=zH ha
 have HB:=zH hb
 obtain⟨aa,ac,rfl,-⟩:=ha.len
 obtain⟨ba,bc,rfl,-⟩:=hb.len
 clear hi hz0 hz1 hz2 ha hb
 go_enter Tryz.func83,Tryz.ntmps83
 go_wp2_with (at_builtin;refine wpList_append_vec rfl _ _ 79 rfl 5 i0 (.int .u8 0) 1 1 Tryz.underlying79 HI.out HZ0.out HZ1.out HZ2.out rfl (by decide) rfl rfl (Vec.nil (w:=w)) (SrcV.of_rd HA.out) (u8s_one _) ?c1 ?c2 ?_)
 case c1=>simp[maxLen];omega
 case c2=>simp;omega
 intro v1 w1 hv ho hf
 have V1:=zH hv
 have N1:Hid (Nw w w1):=zH (ho.mono (fun k _ hk=>by cases hk))
 have F1:Hid (∀g,v1.ownBlock=some g→w.heap.size≤g):=zH (fun g hg=>by
  rcases hf with hf|hf
  ·rw[hf]at hg;cases hg
  ·exact hf g hg)
 clear hv ho hf
 go_wp2_with (at_builtin;refine wpList_append_vec rfl _ _ 79 rfl 5 i0 (.int .u8 0) 1 1 Tryz.underlying79 HI.out HZ0.out HZ1.out HZ2.out rfl (by decide) rfl rfl V1.out (SrcV.of_rd (HB.out.nw N1.out)) (u8s_one _) ?c3 ?c4 ?_)
 case c3=>simp[maxLen];omega
 case c4=>simp;omega
 intro v2 w2 hv ho hf
 have V2:=zH hv
 have N2:Hid (Nw w w2):=zH (N1.out.trans' ho (fun k hk e=>by have:=F1.out k e;omega))
 have F2:Hid (∀g,v2.ownBlock=some g→w.heap.size≤g):=zH (fun g hg=>by
  rcases hf with hf|hf
  ·exact F1.out g (hf▸hg)
  ·exact Nat.le_trans N1.out.size (hf g hg))
 clear hv ho hf
 go_wp2
 go_ret
 refine⟨v2,rfl,?_,N2.out,F2.out⟩
 have:=V2.out
 simpa using this
theorem opn_ok (w:World) (most left:Int) (a:Option Addr) (n c:Nat) (down:Bool) (h0 : -1≤left) (h1:left≤9223372036854775807) :
  Calls Tryz.prog 89 #[.agg #[.int .i64 most,.slice a n c,.int .i64 left,.bool down]] w fun e w'=>Nw w w' ∧
   e=(if left=0 then .returned (.tuple #[.agg #[.int .i64 most,.slice a n c,.int .i64 (-1),.bool true],.bool false]) else .returned (.tuple #[.agg #[.int .i64 most,.slice a n c,.int .i64 (max (left-1) (-1)),.bool down],.bool true])):=by
 by_cases hz:left=0
 ·subst hz
  go_enter Tryz.func89,Tryz.ntmps89
  go_wp2
  refine bodyPost_ret (v:=.tuple #[.agg #[.int .i64 most,.slice a n c,.int .i64 (-1),.bool true],.bool false]) (by simp[results,Tryz.results89,go_sem]) rfl ⟨?_,by simp⟩
  exact ((Nw.refl w).alloc _).alloc _
 ·by_cases hp:0<left
  ·have e:max (left-1) (-1)=left-1:=by omega
   have r:Hid ((if left=0 then Ending.returned (.tuple #[.agg #[.int .i64 most,.slice a n c,.int .i64 (-1),.bool true],.bool false]) else .returned (.tuple #[.agg #[.int .i64 most,.slice a n c,.int .i64 (max (left-1) (-1)),.bool down],.bool true]))=.returned (.tuple #[.agg #[.int .i64 most,.slice a n c,.int .i64 (left-1),.bool down],.bool true])):=zH (by rw[if_neg hz,e])
   have f1:(left==0)=false:=by simpa using hz
   clear e
   rw[r.out]
   go_enter Tryz.func89,Tryz.ntmps89
   go_wp2
   refine bodyPost_ret (v:=.tuple #[.agg #[.int .i64 most,.slice a n c,.int .i64 (left-1),.bool down],.bool true]) (by simp[results,Tryz.results89,go_sem]) rfl ⟨?_,rfl⟩
   exact ((Nw.refl w).alloc _).alloc _
  ·obtain rfl:left = -1:=by omega
   go_enter Tryz.func89,Tryz.ntmps89
   go_wp2
   refine bodyPost_ret (v:=.tuple #[.agg #[.int .i64 most,.slice a n c,.int .i64 (-1),.bool down],.bool true]) (by simp[results,Tryz.results89,go_sem]) rfl ⟨?_,by simp;decide⟩
   exact ((Nw.refl w).alloc _).alloc _
theorem rins_hit (f x:Str×DFile):∀A:List (Str×DFile),(∀y∈A,¬ f.1<y.1)→f.1<x.1→rins f (A++[x])=A++[f,x]
 |[],_,h=>by simp[rins,h]
 |y::A,hA,h=>by
  have:=rins_hit f x A (fun z hz=>hA z (by simp[hz])) h
  simp[rins,hA y (by simp),this]
theorem rins_done (f x:Str×DFile):∀A:List (Str×DFile),(∃y∈A,f.1<y.1)→rins f (A++[x])=rins f A++[x]
 |[],⟨_,h,_⟩=>by cases h
 |y::A,⟨z,hz,h⟩=>by
  by_cases hy:f.1<y.1
  ·simp[rins,hy]
  ·have hzA:z∈A:=by
    rcases List.mem_cons.1 hz with rfl|hz
    ·exact absurd h hy
    ·exact hz
   have:=rins_done f x A ⟨z,hzA,h⟩
   simp[rins,hy,this]
theorem rins_end (f:Str×DFile):∀A:List (Str×DFile),(∀y∈A,¬ f.1<y.1)→rins f A=A++[f]
 |[],_=>rfl
 |y::A,hA=>by
  have:=rins_end f A (fun z hz=>hA z (by simp[hz]))
  simp[rins,hA y (by simp),this]
def WithAt (f:Str×DFile) (L:List (Str×DFile)) (k:Nat) (dn:Bool) (acc:List (Str×DFile)):Prop:=
 if dn then acc=rins f (L.take k)∧∃y∈L.take k,f.1<y.1 else acc=L.take k∧∀y∈L.take k,¬ f.1<y.1
theorem WithAt.skip {f:Str×DFile}{L:List (Str×DFile)}{k:Nat}{acc:List (Str×DFile)}(h:WithAt f L k false acc) (hk:k<L.length) (hx:¬ f.1<L[k].1):WithAt f L (k+1) false (acc++[L[k]]):=by
 simp only[WithAt,Bool.false_eq_true,if_false]at h ⊢
 rw[List.take_succ_eq_append_getElem hk,h.1]
 exact⟨rfl,fun y hy=>by
  rcases List.mem_append.1 hy with hy|hy
  ·exact h.2 y hy
  ·rw[List.mem_singleton.1 hy];exact hx⟩
theorem WithAt.hit {f:Str×DFile}{L:List (Str×DFile)}{k:Nat}{acc:List (Str×DFile)}(h:WithAt f L k false acc) (hk:k<L.length) (hx:f.1<L[k].1):WithAt f L (k+1) true (acc++[f]++[L[k]]):=by
 simp only[WithAt,Bool.false_eq_true,if_false,if_true]at h ⊢
 rw[List.take_succ_eq_append_getElem hk,h.1,rins_hit f _ _ h.2 hx]
 exact⟨by simp,L[k],List.mem_append_right _ (List.mem_singleton_self _),hx⟩
theorem WithAt.on {f:Str×DFile}{L:List (Str×DFile)}{k:Nat}{acc:List (Str×DFile)}(h:WithAt f L k true acc) (hk:k<L.length):WithAt f L (k+1) true (acc++[L[k]]):=by
 simp only[WithAt,if_true]at h ⊢
 rw[List.take_succ_eq_append_getElem hk,h.1,rins_done f _ _ h.2]
 obtain⟨y,hy,h2⟩:=h.2
 exact⟨rfl,y,List.mem_append_left _ hy,h2⟩
theorem WithAt.len {f:Str×DFile}{L:List (Str×DFile)}{k:Nat}{dn:Bool}{acc:List (Str×DFile)}(h:WithAt f L k dn acc) (hk:k≤L.length):acc.length=k+dn.toNat:=by
 have hl:∀A:List (Str×DFile),(rins f A).length=A.length+1:=by
  intro A
  induction A with
  |nil=>rfl
  |cons y A ih=>unfold rins;split <;> simp[ih]
 cases dn
 ·simp only[WithAt,Bool.false_eq_true,if_false]at h
  rw[h.1];simp;omega
 ·simp only[WithAt,if_true]at h
  rw[h.1,hl];simp;omega
structure Grow (X:Nat→Prop) (W0 W1 wr:World) (v:Value) (acc:List (Str×DFile)) (cs:List Value):Prop where
 vec:Vec 3 wr v acc.length cs
 cells:FCells X W0 cs acc
 nw:Nw W1 wr
 new:∀g,v.ownBlock=some g→W1.heap.size≤g
theorem Grow.push {W0 W1 wr w':World}{v v':Value}{acc:List (Str×DFile)}{cs ds:List Value}{x:Str×DFile}{o:Obj}(h:Grow X W0 W1 wr v acc cs) (hd:FCells X W0 ds [x]) (hv:Vec 3 w' v' (acc.length+1) (cs++ds))
  (ho:Only (fun k=>v.ownBlock=some k) (wr.alloc o) w') (hf:v'.ownBlock=v.ownBlock∨∀g,v'.ownBlock=some g→wr.heap.size+1≤g):Grow X W0 W1 w' v' (acc++[x]) (cs++ds):=by
 refine⟨by rw[List.length_append];exact hv,h.cells.append hd,(h.nw.alloc o).trans' ho (fun k hk e=>by have:=h.new k e;omega),fun g hg=>?_⟩
 rcases hf with hf|hf
 ·exact h.new g (hf▸hg)
 ·have:=hf g hg;have:=h.nw.size;simp at *;omega
theorem src3 (w:World) (n:Str) (b:Value) (s:Int) (t:TypeId):SrcV 3 (w.alloc (.cells #[.string ⟨n.toArray⟩,b,.int .i64 s] t)) (.slice (some ⟨w.heap.size,0,none⟩) 1 1) 1 [.string ⟨n.toArray⟩,b,.int .i64 s]:=
 src_lit w t _ 3 1 1 [.string ⟨n.toArray⟩,b,.int .i64 s] rfl (Nat.le_refl 1) (by decide)
theorem only_set4 (w1:World) (p:Nat) (a b c d:Value):Only (fun k=>k=p) w1 ((((w1.setCell ⟨p,0,none⟩ a).setCell ⟨p,1,none⟩ b).setCell ⟨p,2,none⟩ c).setCell ⟨p,3,none⟩ d):=by
 refine Only.setCell (S:=fun k=>k=p) (p:=⟨p,3,none⟩) ?_ (fun _=>rfl) d
 refine Only.setCell (S:=fun k=>k=p) (p:=⟨p,2,none⟩) ?_ (fun _=>rfl) c
 refine Only.setCell (S:=fun k=>k=p) (p:=⟨p,1,none⟩) ?_ (fun _=>rfl) b
 exact Only.setCell (S:=fun k=>k=p) (p:=⟨p,0,none⟩) (Only.refl w1) (fun _=>rfl) a
theorem heap_set4 {w1:World}{p:Nat}{a0 b0 c0 d0:Value}{t:TypeId}(h:w1.heap[p]? = some (.cells #[a0,b0,c0,d0] t (0,0))) (a b c d:Value) :
  ((((w1.setCell ⟨p,0,none⟩ a).setCell ⟨p,1,none⟩ b).setCell ⟨p,2,none⟩ c).setCell ⟨p,3,none⟩ d).heap[p]? = some (.cells #[a,b,c,d] t (0,0)):=by
 have:=heap_setCell_at (heap_setCell_at (heap_setCell_at (heap_setCell_at h 0 a) 1 b) 2 c) 3 d
 simpa using this
theorem only_end (wr:World) (p q:Nat) (s m a b c:Value):Only (fun k=>k=p∨k=q) wr (((((wr.setCell ⟨p,1,none⟩ s).setCell ⟨q,0,none⟩ m).setCell ⟨q,1,none⟩ a).setCell ⟨q,2,none⟩ b).setCell ⟨q,3,none⟩ c):=
 (((((Only.refl wr).setCell (fun _=>.inl rfl) _).setCell (fun _=>.inr rfl) _).setCell (fun _=>.inr rfl) _).setCell (fun _=>.inr rfl) _).setCell (fun _=>.inr rfl) _
theorem rwith_ok {wb w:World}{v:Value}{r:Dsk}(h:RefB X wb w v r) (hwb:Nw wb w) (n:Str) (f:DFile) (ba:Option Addr) (bc:Nat) (hb:BsX X wb (.slice ba f.bytes.length bc) f.bytes) (hL:r.files.length≤100000) :
  Calls Tryz.prog 90 #[v,.agg #[.string ⟨n.toArray⟩,.slice ba f.bytes.length bc,.int .i64 f.synced]] w fun e w'=>∃v',e=.returned v'∧RefN X wb w w' v' { r with files:=rwith r.files (n,f) }∧Nw w w':=by
 have HR:=zH h
 obtain⟨sv,cs0,rfl,hSV,hFL⟩:=h
 obtain⟨a,cap,rfl,h1,h2,-⟩:=SrcV.elem hSV hFL
 obtain⟨most,L,left,down⟩:=r
 obtain⟨fb,fs⟩:=f
 simp only at h1 h2 hb hL HR ⊢
 have HONEF:Hid (FCells X wb [.string ⟨n.toArray⟩,.slice ba fb.length bc,.int .i64 fs] [(n,⟨fb,fs⟩)]):=zH (FCells.one (n:=n) (f:=⟨fb,fs⟩) hb)
 have HWB:=zH hwb
 clear hFL hb hSV hwb
 unfold maxLen at h2
 obtain⟨i0,hi,hz0,hz1,hz2⟩:=info_parts infoFile
 have HI:=zH hi
 have HZ0:=zH hz0
 have HZ1:=zH hz1
 have HZ2:=zH hz2
 clear hi hz0 hz1 hz2
 go_enter Tryz.func90,Tryz.ntmps90
 go_wp2_with fail
 generalize hW0:((w.alloc (.cells #[.int .i64 most,.slice a L.length cap,.int .i64 left,.bool down] 28)).alloc (.cells #[.string ⟨n.toArray⟩,.slice ba fb.length bc,.int .i64 fs] 104)).alloc (.cells #[.int .i64 0,.slice none 0 0,.int .i64 0,.bool false] 28)=W0
 have HN0:Hid (Nw w W0):=zH (by rw[←hW0];exact (((Nw.refl w).alloc _).alloc _).alloc _)
 have HB0:Hid (W0.heap[w.heap.size]? = some (.cells #[.int .i64 most,.slice a L.length cap,.int .i64 left,.bool down] 28 (0,0))):=zH (by rw[←hW0,heap_alloc_old _ _ (by simp;omega),heap_alloc_old _ _ (by simp)];exact heap_alloc_new w _)
 have HB1:Hid (W0.heap[w.heap.size+1]? = some (.cells #[.string ⟨n.toArray⟩,.slice ba fb.length bc,.int .i64 fs] 104 (0,0))):=zH (by
  rw[←hW0,heap_alloc_old _ _ (by simp)]
  have:=heap_alloc_new (w.alloc (.cells #[.int .i64 most,.slice a L.length cap,.int .i64 left,.bool down] 28)) (.cells #[.string ⟨n.toArray⟩,.slice ba fb.length bc,.int .i64 fs] 104)
  simpa using this)
 have HB2:Hid (W0.heap[w.heap.size+2]? = some (.cells #[.int .i64 0,.slice none 0 0,.int .i64 0,.bool false] 28 (0,0))):=zH (by
  rw[←hW0]
  have:=heap_alloc_new ((w.alloc (.cells #[.int .i64 most,.slice a L.length cap,.int .i64 left,.bool down] 28)).alloc (.cells #[.string ⟨n.toArray⟩,.slice ba fb.length bc,.int .i64 fs] 104)) (.cells #[.int .i64 0,.slice none 0 0,.int .i64 0,.bool false] 28)
  simpa using this)
 have hs0:W0.heap.size=w.heap.size+3:=by rw[←hW0];simp
 have HS0:=zH hs0
 clear hW0 hs0
 refine (rwithout_ok (HR.out.nw HN0.out) (HWB.out.trans HN0.out) n hL).mono ?_
 rintro e w1 ⟨v1,rfl,hr1,hn1⟩
 obtain⟨sv1,cs1,rfl,hSV1,hFL1,hnew1⟩:=hr1
 simp only at hSV1 hFL1 ⊢
 obtain⟨a1,cap1,rfl,g1,g2,hel⟩:=SrcV.elem hSV1 hFL1
 have HNEW1:=zH hnew1
 have HLEN:Hid ((rwithout L n).length≤100000):=zH (Nat.le_trans (rwithout_len L n) hL)
 have HNOT:=zH (not_rwithout L n)
 have HW:rwith L (n,⟨fb,fs⟩)=rins (n,⟨fb,fs⟩) (rwithout L n):=rfl
 have HWW:=zH HW
 clear HW
 generalize rwithout L n=M at *
 have HE:=zH hel
 have HN1:=zH hn1
 clear hel hn1 hFL1 hSV1 hnew1
 unfold maxLen at g2
 obtain⟨b0,b1,b2,b3,bf0,bf1,bf2,bf3⟩:=box_cells (HN1.out.at_ HB0.out)
 have hsz:w.heap.size+2<w1.heap.size:=by have:=HN1.out.size;have:=HS0.out;omega
 go_wp2
 generalize hW2:(((w1.setCell ⟨w.heap.size,0,none⟩ (.int .i64 most)).setCell ⟨w.heap.size,1,none⟩ (.slice a1 M.length cap1)).setCell ⟨w.heap.size,2,none⟩ (.int .i64 left)).setCell ⟨w.heap.size,3,none⟩ (.bool down)=W2
 have HO2:Hid (Only (fun k=>k=w.heap.size) w1 W2):=zH (hW2▸only_set4 w1 w.heap.size _ _ _ _)
 have HP0:Hid (W2.heap[w.heap.size]? = some (.cells #[.int .i64 most,.slice a1 M.length cap1,.int .i64 left,.bool down] 28 (0,0))):=zH (hW2▸heap_set4 (HN1.out.at_ HB0.out) _ _ _ _)
 clear hW2 b0 b1 b2 b3 bf0 bf1 bf2 bf3
 have HP1:Hid (W2.heap[w.heap.size+1]? = some (.cells #[.string ⟨n.toArray⟩,.slice ba fb.length bc,.int .i64 fs] 104 (0,0))):=zH (HO2.out.at_ (HN1.out.at_ HB1.out) (by omega))
 have HP2:Hid (W2.heap[w.heap.size+2]? = some (.cells #[.int .i64 0,.slice none 0 0,.int .i64 0,.bool false] 28 (0,0))):=zH (HO2.out.at_ (HN1.out.at_ HB2.out) (by omega))
 have HNW2:Hid (Nw w W2):=zH ((HN0.out.trans HN1.out).trans' HO2.out (fun k hk e=>by omega))
 have HE2:Hid (∀i (h:i<M.length),∃g o b,a1=some ⟨g,o,none⟩∧W2.cell? ⟨g,o+i*3,none⟩=some (.string ⟨M[i].1.toArray⟩)∧W2.cell? ⟨g,o+i*3+1,none⟩=some b∧W2.cell? ⟨g,o+i*3+2,none⟩=some (.int .i64 M[i].2.synced)∧BsX X wb b M[i].2.bytes):=zH (fun i hi=>by
  obtain⟨g,o,b,rfl,e1,e2,e3,e4⟩:=HE.out i hi
  have hg:¬ g=w.heap.size:=by have:=HNEW1.out g rfl;have:=HS0.out;omega
  exact⟨g,o,b,rfl,HO2.out.cell e1 hg,HO2.out.cell e2 hg,HO2.out.cell e3 hg,e4⟩)
 have hs2:w.heap.size+2<W2.heap.size:=by have:=HO2.out.size;omega
 clear hsz
 go_loopw [5,6,7] (fun v dv i wr=>∃(k:Nat) (dn:Bool) (acc:List (Str×DFile)) (cs:List Value),k≤M.length∧i=.int .i64 k∧dv=.bool dn∧WithAt (n,⟨fb,fs⟩) M k dn acc∧Grow X wb W2 wr v acc cs) (fun _ _ i _=>M.length-(intOf i).toNat)
 case atStart=>exact⟨0,false,[],[],Nat.zero_le _,rfl,rfl,⟨rfl,(fun y hy=>by cases hy)⟩,⟨Vec.nil,rfl,Nw.refl _,(fun g hg=>by cases hg)⟩⟩
 case round =>
  obtain⟨k,dn,acc,cs,hk,rfl,rfl,hwi,hgr⟩:=hrel
  have hal:=hwi.len hk
  have HWI:=zH hwi
  have HG:=zH hgr
  clear hwi hgr
  have haccl:acc.length≤100001:=by have:=HLEN.out;cases dn <;> simp at hal <;> omega
  have HAL:=zH hal
  clear hal
  obtain⟨b0,b1,b2,b3,-⟩:=box_cells (HG.out.nw.at_ HP0.out)
  obtain⟨f0,f1,f2,-⟩:=box_cells3 (HG.out.nw.at_ HP1.out)
  by_cases hlt:k<M.length
  ·obtain⟨g,o,b,rfl,e0,e1,e2,hb⟩:=HE2.out k hlt
   obtain⟨xa,xc,rfl,-⟩:=hb.len
   have c0:=HG.out.nw.cell e0
   have c1:=HG.out.nw.cell e1
   have c2:=HG.out.nw.cell e2
   have hone:FCells X wb [.string ⟨M[k].1.toArray⟩,.slice xa M[k].2.bytes.length xc,.int .i64 M[k].2.synced] [M[k]]:=FCells.one hb
   have hne:M[k].1≠n:=fun e=>HNOT.out (by rw[←e];exact List.mem_map_of_mem (List.getElem_mem hlt))
   have HON:Hid (dn=true→WithAt (n,⟨fb,fs⟩) M (k+1) true (acc++[M[k]])):=zH (fun h=>WithAt.on (by rw[←h];exact HWI.out) hlt)
   have HHIT:Hid (dn=false→n<M[k].1→WithAt (n,⟨fb,fs⟩) M (k+1) true (acc++[(n,⟨fb,fs⟩)]++[M[k]])):=zH (fun h hx=>WithAt.hit (by rw[←h];exact HWI.out) hlt hx)
   have HSKIP:Hid (dn=false→¬ n<M[k].1→WithAt (n,⟨fb,fs⟩) M (k+1) false (acc++[M[k]])):=zH (fun h hx=>WithAt.skip (by rw[←h];exact HWI.out) hlt hx)
   have HC0:Hid (∀w',Nw W2 w'→w'.cell? ⟨g,o+k*3,none⟩=some (.string ⟨M[k].1.toArray⟩)):=zH (fun w' hw=>hw.cell e0)
   have HC1:Hid (∀w',Nw W2 w'→w'.cell? ⟨g,o+k*3+1,none⟩=some (.slice xa M[k].2.bytes.length xc)):=zH (fun w' hw=>hw.cell e1)
   have HC2:Hid (∀w',Nw W2 w'→w'.cell? ⟨g,o+k*3+2,none⟩=some (.int .i64 M[k].2.synced)):=zH (fun w' hw=>hw.cell e2)
   clear hb e0 e1 e2
   generalize M[k]=x at *
   have HONE:=zH hone
   clear hone
   obtain⟨x1,x2,x3⟩:=x
   simp only at *
   cases dn
   case true =>
    go_wp2
    refine wp_region_quiet_below (by kernel_rfl) (by kernel_rfl) ?_
    repeat (first|go_big_quiet_step (fail)|quiet_step (fail))
    refine wpQuiet_nil ?_
    intro w4 hw4
    have N4:=zH (Nw.of_regrown hw4)
    have G4:Hid (Grow X wb W2 w4 u5 acc cs):=zH ⟨HG.out.vec.nw N4.out,HG.out.cells,HG.out.nw.trans N4.out,HG.out.new⟩
    have c0:=N4.out.cell c0
    have c1:=N4.out.cell c1
    have c2:=N4.out.cell c2
    obtain⟨b0,b1,b2,b3,-⟩:=box_cells (G4.out.nw.at_ HP0.out)
    have V5:=zH (G4.out.vec.nw ((Nw.refl w4).alloc (.cells #[.string ⟨x1.toArray⟩,.slice xa x2.length xc,.int .i64 x3] 104)))
    have S5:=zH (src3 w4 x1 (.slice xa x2.length xc) x3 104)
    go_wp2_with (at_builtin;refine wpList_append_vec rfl _ _ 26 rfl 104 i0 (.agg #[.string ⟨#[]⟩,.slice none 0 0,.int .i64 0]) 3 48 Tryz.underlying26 HI.out HZ0.out HZ1.out HZ2.out rfl (by decide) rfl rfl V5.out S5.out HONE.out.one_cell ?c1 ?c2 ?_)
    case c1=>simp[maxLen];omega
    case c2=>omega
    intro v' w' hv' ho hf
    have G5:=zH (G4.out.push HONE.out hv' ho hf)
    clear hv' ho hf c0 c1 c2 b0 b1 b2 b3 f0 f1 f2
    go_wp2
    go_roundw
    case rel=>exact⟨k+1,true,acc++[(x1,⟨x2,x3⟩)],_,by omega,by go_num,rfl,HON.out trivial,G5.out⟩
    case measure=>simp[intOf];omega
   case false =>
    have d1:=cellG b1
    have d2:=cellG c0
    have d3:=cellG f0
    have fe:(x1==n)=false:=by simpa using hne
    by_cases hx:n<x1
    ·have fl:Op.bytesLess x1 n=false:=by rw[bytesLess_eq];simpa using List.le_of_lt hx
     go_wp2
     refine wp_region_quiet_below (by kernel_rfl) (by kernel_rfl) ?_
     repeat (first|go_big_quiet_step (fail)|quiet_step (fail))
     refine wpQuiet_nil ?_
     intro w4 hw4
     have N4:=zH (Nw.of_regrown hw4)
     have G4:Hid (Grow X wb W2 w4 u5 acc cs):=zH ⟨HG.out.vec.nw N4.out,HG.out.cells,HG.out.nw.trans N4.out,HG.out.new⟩
     have HH:=zH (HHIT.out trivial hx)
     clear fe fl hx hne d1 d2 d3 b0 b1 b2 b3 f0 f1 f2
     obtain⟨f0,f1,f2,-⟩:=box_cells3 (G4.out.nw.at_ HP1.out)
     have V5:=zH (G4.out.vec.nw ((Nw.refl w4).alloc (.cells #[.string ⟨n.toArray⟩,.slice ba fb.length bc,.int .i64 fs] 104)))
     have S5:=zH (src3 w4 n (.slice ba fb.length bc) fs 104)
     go_wp2_with (at_builtin;refine wpList_append_vec rfl _ _ 26 rfl 104 i0 (.agg #[.string ⟨#[]⟩,.slice none 0 0,.int .i64 0]) 3 48 Tryz.underlying26 HI.out HZ0.out HZ1.out HZ2.out rfl (by decide) rfl rfl V5.out S5.out HONEF.out.one_cell ?c1 ?c2 ?_)
     case c1=>simp[maxLen];omega
     case c2=>omega
     intro v5 w5 hv' ho hf
     have G5:=zH (G4.out.push HONEF.out hv' ho hf)
     clear hv' ho hf f0 f1 f2 G4 V5 S5
     have c0:=HC0.out w5 G5.out.nw
     have c1:=HC1.out w5 G5.out.nw
     have c2:=HC2.out w5 G5.out.nw
     obtain⟨b0,b1,b2,b3,-⟩:=box_cells (G5.out.nw.at_ HP0.out)
     have V6:=zH (G5.out.vec.nw ((Nw.refl w5).alloc (.cells #[.string ⟨x1.toArray⟩,.slice xa x2.length xc,.int .i64 x3] 104)))
     have S6:=zH (src3 w5 x1 (.slice xa x2.length xc) x3 104)
     go_wp2_with (at_builtin;refine wpList_append_vec rfl _ _ 26 rfl 104 i0 (.agg #[.string ⟨#[]⟩,.slice none 0 0,.int .i64 0]) 3 48 Tryz.underlying26 HI.out HZ0.out HZ1.out HZ2.out rfl (by decide) rfl rfl V6.out S6.out HONE.out.one_cell ?c3 ?c4 ?_)
     case c3=>simp[maxLen];omega
     case c4=>simp;omega
     intro v6 w6 hv' ho hf
     have G6:=zH (G5.out.push HONE.out (by simpa using hv') ho hf)
     clear hv' ho hf c0 c1 c2 b0 b1 b2 b3
     go_wp2
     go_roundw
     case rel=>exact⟨k+1,true,acc++[(n,⟨fb,fs⟩)]++[(x1,⟨x2,x3⟩)],_,by omega,by go_num,rfl,HH.out,G6.out⟩
     case measure=>simp[intOf];omega
    ·have hlt2:x1<n:=by
      rcases str_tri x1 n with h|h|h
      ·exact h
      ·exact absurd h hne
      ·exact absurd h hx
     have fl:Op.bytesLess x1 n=true:=by rw[bytesLess_eq];simpa using hlt2
     go_wp2
     refine wp_region_quiet_below (by kernel_rfl) (by kernel_rfl) ?_
     repeat (first|go_big_quiet_step (fail)|quiet_step (fail))
     refine wpQuiet_nil ?_
     intro w4 hw4
     have N4:=zH (Nw.of_regrown hw4)
     have G4:Hid (Grow X wb W2 w4 u5 acc cs):=zH ⟨HG.out.vec.nw N4.out,HG.out.cells,HG.out.nw.trans N4.out,HG.out.new⟩
     have HH:=zH (HSKIP.out trivial hx)
     clear fe fl hx hne d1 d2 d3 b0 b1 b2 b3 f0 f1 f2 hlt2 c0 c1 c2
     have c0:=HC0.out w4 G4.out.nw
     have c1:=HC1.out w4 G4.out.nw
     have c2:=HC2.out w4 G4.out.nw
     obtain⟨b0,b1,b2,b3,-⟩:=box_cells (G4.out.nw.at_ HP0.out)
     have V6:=zH (G4.out.vec.nw ((Nw.refl w4).alloc (.cells #[.string ⟨x1.toArray⟩,.slice xa x2.length xc,.int .i64 x3] 104)))
     have S6:=zH (src3 w4 x1 (.slice xa x2.length xc) x3 104)
     go_wp2_with (at_builtin;refine wpList_append_vec rfl _ _ 26 rfl 104 i0 (.agg #[.string ⟨#[]⟩,.slice none 0 0,.int .i64 0]) 3 48 Tryz.underlying26 HI.out HZ0.out HZ1.out HZ2.out rfl (by decide) rfl rfl V6.out S6.out HONE.out.one_cell ?c5 ?c6 ?_)
     case c5=>simp[maxLen];omega
     case c6=>omega
     intro v6 w6 hv' ho hf
     have G6:=zH (G4.out.push HONE.out hv' ho hf)
     clear hv' ho hf c0 c1 c2 b0 b1 b2 b3
     go_wp2
     go_roundw
     case rel=>exact⟨k+1,false,acc++[(x1,⟨x2,x3⟩)],_,by omega,by go_num,rfl,HH.out,G6.out⟩
     case measure=>simp[intOf];omega
  ·have hM:M.take k=M:=List.take_of_length_le (by omega)
   have fin:∀(wf:World) (vf:Value) (cf:List Value),Grow X wb W2 wf vf (rins (n,⟨fb,fs⟩) M) cf→∃va vc,vf=.slice va (rins (n,⟨fb,fs⟩) M).length vc∧∀W3,Only (fun k=>k=w.heap.size∨k=w.heap.size+2) wf W3 →
     RefN X wb w W3 (.agg #[.int .i64 most,.slice va (rins (n,⟨fb,fs⟩) M).length vc,.int .i64 left,.bool down]) ⟨most,rwith L (n,⟨fb,fs⟩),left,down⟩∧Nw w W3:=by
    intro wf vf cf hg
    obtain⟨va,vc,rfl,-⟩:=hg.vec.len
    refine⟨va,vc,rfl,fun W3 hO=>⟨⟨_,cf,rfl,?_,?_,?_⟩,?_⟩⟩
    ·rw[HWW.out]
     exact (hg.vec.keep hO.size (fun g hgg=>hO.block g (hg.vec.lt g hgg) (fun e=>by have:=hg.new g hgg;omega))).src
    ·rw[HWW.out];exact hg.cells
    ·intro g hgg;have:=hg.new g hgg;omega
    ·exact (HNW2.out.trans hg.nw).trans' hO (fun k hk e=>by omega)
   have FIN:=zH fin
   clear fin
   cases dn
   case true =>
    have hacc:acc=rins (n,⟨fb,fs⟩) M:=by
     have:=HWI.out
     simp only[WithAt,if_true]at this
     rw[this.1,hM]
    subst hacc
    obtain⟨va,vc,hv,hfin⟩:=FIN.out _ _ _ HG.out
    subst hv
    have HFIN:=zH hfin
    have hsz2:w.heap.size+2<wr.heap.size:=by have:=HG.out.nw.size;omega
    obtain⟨-,-,-,-,bf0,bf1,bf2,bf3⟩:=box_cells (HG.out.nw.at_ HP0.out)
    obtain⟨r0,r1,r2,r3,rf0,rf1,rf2,rf3⟩:=box_cells (HG.out.nw.at_ HP2.out)
    clear hM hfin
    go_wp2
    refine bodyPost_ret (v:=.agg #[.int .i64 most,.slice va (rins (n,⟨fb,fs⟩) M).length vc,.int .i64 left,.bool down]) (by simp[results,Tryz.results90,go_sem,r0,r1,r2,r3]) rfl ?_
    exact⟨_,rfl,HFIN.out _ (only_end wr w.heap.size (w.heap.size+2) _ _ _ _ _)⟩
   case false =>
    have hacc:acc=M∧∀y∈M,¬ n<y.1:=by
     have:=HWI.out
     simp only[WithAt,Bool.false_eq_true,if_false]at this
     rw[hM]at this
     exact this
    have hr:acc++[(n,⟨fb,fs⟩)]=rins (n,⟨fb,fs⟩) M:=by rw[hacc.1];exact (rins_end (n,⟨fb,fs⟩) M hacc.2).symm
    have HRR:=zH hr
    have V6:=zH (HG.out.vec.nw ((Nw.refl wr).alloc (.cells #[.string ⟨n.toArray⟩,.slice ba fb.length bc,.int .i64 fs] 104)))
    have S6:=zH (src3 wr n (.slice ba fb.length bc) fs 104)
    clear hacc hr hM
    go_wp2_with (at_builtin;refine wpList_append_vec rfl _ _ 26 rfl 104 i0 (.agg #[.string ⟨#[]⟩,.slice none 0 0,.int .i64 0]) 3 48 Tryz.underlying26 HI.out HZ0.out HZ1.out HZ2.out rfl (by decide) rfl rfl V6.out S6.out HONEF.out.one_cell ?c7 ?c8 ?_)
    case c7=>simp[maxLen];omega
    case c8=>omega
    intro v6 w6 hv' ho hf
    have G6:=HG.out.push HONEF.out hv' ho hf
    rw[HRR.out]at G6
    have G6:=zH G6
    clear hv' ho hf
    obtain⟨va,vc,hv,hfin⟩:=FIN.out _ _ _ G6.out
    subst hv
    have HFIN:=zH hfin
    have hsz2:w.heap.size+2<w6.heap.size:=by have:=G6.out.nw.size;omega
    obtain⟨-,-,-,-,bf0,bf1,bf2,bf3⟩:=box_cells (G6.out.nw.at_ HP0.out)
    obtain⟨b0,b1,b2,b3,-⟩:=box_cells (G6.out.nw.at_ HP0.out)
    obtain⟨r0,r1,r2,r3,rf0,rf1,rf2,rf3⟩:=box_cells (G6.out.nw.at_ HP2.out)
    clear hfin
    go_wp2
    refine bodyPost_ret (v:=.agg #[.int .i64 most,.slice va (rins (n,⟨fb,fs⟩) M).length vc,.int .i64 left,.bool down]) (by simp[results,Tryz.results90,go_sem,r0,r1,r2,r3]) rfl ?_
    exact⟨_,rfl,HFIN.out _ (only_end w6 w.heap.size (w.heap.size+2) _ _ _ _ _)⟩
end
theorem okChar_iff (c:UInt8):okChar c=true↔(97≤c.toNat∧c.toNat≤122)∨(48≤c.toNat∧c.toNat≤57)∨c.toNat=46∨c.toNat=45:=by
 have e1:c=46↔c.toNat=46:=⟨fun h=>by rw[h];rfl,fun h=>UInt8.toNat_inj.1 (by rw[h];rfl)⟩
 have e2:c=45↔c.toNat=45:=⟨fun h=>by rw[h];rfl,fun h=>UInt8.toNat_inj.1 (by rw[h];rfl)⟩
 simp[okChar,UInt8.le_iff_toNat_le,e1,e2,or_assoc]
theorem all_take (n:Str) (k:Nat) (h:k<n.length):(n.take (k+1)).all okChar=((n.take k).all okChar && okChar n[k]):=by
 rw[List.take_succ_eq_append_getElem h,List.all_append]
 simp
theorem rRight_ok (n:Str) (w:World) (hn:n.length≤9223372036854775807):Calls Tryz.prog 88 #[.string ⟨n.toArray⟩] w fun e w'=>e=.returned (.bool (okName n))∧w=w':=by
 go_enter Tryz.func88,Tryz.ntmps88
 go_wp2
 go_loop [3] (fun i=>∃k:Nat,k≤n.length∧i=.int .i64 k∧(n.take k).all okChar=true) (fun i=>n.length-(intOf i).toNat)
 case atStart=>exact⟨0,Nat.zero_le _,rfl,rfl⟩
 case round =>
  obtain⟨k,hk,rfl,hall⟩:=hrel
  have HALL:=zH hall
  clear hall
  by_cases hlt:k<n.length
  ·have hs:=all_take n k hlt
   have hsz:k<(⟨n.toArray⟩:ByteArray).size:=by show k<n.toArray.size;simpa using hlt
   have hc:okChar n[k]=true↔(97≤((⟨n.toArray⟩:ByteArray)[k]'hsz).toNat∧((⟨n.toArray⟩:ByteArray)[k]'hsz).toNat≤122)∨(48≤((⟨n.toArray⟩:ByteArray)[k]'hsz).toNat∧((⟨n.toArray⟩:ByteArray)[k]'hsz).toNat≤57)∨((⟨n.toArray⟩:ByteArray)[k]'hsz).toNat=46∨((⟨n.toArray⟩:ByteArray)[k]'hsz).toNat=45:=okChar_iff n[k]
   cases hok:okChar n[k]
   case true =>
    have r:=zH (show (n.take (k+1)).all okChar=true by rw[hs,HALL.out,hok];rfl)
    have hcc:=hc.1 hok
    clear hs hc hok
    rcases hcc with ⟨h1,h2⟩|⟨h1,h2⟩|h1|h1
    ·have f1:(97:Int)≤(((⟨n.toArray⟩:ByteArray)[k]'hsz).toNat:Int):=by omega
     have f2:(((⟨n.toArray⟩:ByteArray)[k]'hsz).toNat:Int)≤122:=by omega
     clear h1 h2
     go_wp2
     go_round
     case rel=>exact⟨k+1,by omega,by go_num,r.out⟩
     case measure=>simp[intOf];omega
    ·have f1:(48:Int)≤(((⟨n.toArray⟩:ByteArray)[k]'hsz).toNat:Int):=by omega
     have f2:(((⟨n.toArray⟩:ByteArray)[k]'hsz).toNat:Int)≤57:=by omega
     clear h1 h2
     go_wp2
     go_round
     case rel=>exact⟨k+1,by omega,by go_num,r.out⟩
     case measure=>simp[intOf];omega
    ·have f1:(((⟨n.toArray⟩:ByteArray)[k]'hsz).toNat:Int)=46:=by omega
     clear h1
     go_wp2
     go_round
     case rel=>exact⟨k+1,by omega,by go_num,r.out⟩
     case measure=>simp[intOf];omega
    ·have f1:(((⟨n.toArray⟩:ByteArray)[k]'hsz).toNat:Int)=45:=by omega
     clear h1
     go_wp2
     go_round
     case rel=>exact⟨k+1,by omega,by go_num,r.out⟩
     case measure=>simp[intOf];omega
   case false =>
    have r:=zH (show okName n=false by
     have:n.all okChar=false:=by
      rw[Bool.eq_false_iff]
      intro h
      have h2:(n.take (k+1)).all okChar=true:=by
       rw[List.all_eq_true]at h ⊢
       exact fun x hx=>h x (List.mem_of_mem_take hx)
      rw[hs,hok]at h2
      simp at h2
     simp[okName,this])
    have hcc:¬ ((97≤((⟨n.toArray⟩:ByteArray)[k]'hsz).toNat∧((⟨n.toArray⟩:ByteArray)[k]'hsz).toNat≤122)∨(48≤((⟨n.toArray⟩:ByteArray)[k]'hsz).toNat∧((⟨n.toArray⟩:ByteArray)[k]'hsz).toNat≤57)∨((⟨n.toArray⟩:ByteArray)[k]'hsz).toNat=46∨((⟨n.toArray⟩:ByteArray)[k]'hsz).toNat=45):=fun h=>Bool.false_ne_true (hok.symm.trans (hc.2 h))
    clear hs hc hok
    have hr:((⟨n.toArray⟩:ByteArray)[k]'hsz).toNat≤44∨((⟨n.toArray⟩:ByteArray)[k]'hsz).toNat=47∨(58≤((⟨n.toArray⟩:ByteArray)[k]'hsz).toNat∧((⟨n.toArray⟩:ByteArray)[k]'hsz).toNat≤96)∨123≤((⟨n.toArray⟩:ByteArray)[k]'hsz).toNat:=by omega
    clear hcc
    rcases hr with h1|h1|⟨h1,h2⟩|h1
    ·have f1:(((⟨n.toArray⟩:ByteArray)[k]'hsz).toNat:Int)≤44:=by omega
     have f2:((((⟨n.toArray⟩:ByteArray)[k]'hsz).toNat:Int)==46)=false:=by simp;omega
     have f3:((((⟨n.toArray⟩:ByteArray)[k]'hsz).toNat:Int)==45)=false:=by simp;omega
     have f5:((((⟨n.toArray⟩:ByteArray)[k]'hsz).toNat:Int)!=46)=true:=by simp;omega
     have f6:((((⟨n.toArray⟩:ByteArray)[k]'hsz).toNat:Int)!=45)=true:=by simp;omega
     have f7:¬ (((⟨n.toArray⟩:ByteArray)[k]'hsz).toNat:Int)=46:=by omega
     have f8:¬ (((⟨n.toArray⟩:ByteArray)[k]'hsz).toNat:Int)=45:=by omega
     clear h1
     go_wp2
     go_ret
     exact⟨retB (by rw[r.out]),rfl⟩
    ·have f1:(((⟨n.toArray⟩:ByteArray)[k]'hsz).toNat:Int)=47:=by omega
     clear h1
     go_wp2
     go_ret
     exact⟨retB (by rw[r.out]),rfl⟩
    ·have f1:(58:Int)≤(((⟨n.toArray⟩:ByteArray)[k]'hsz).toNat:Int):=by omega
     have f4:(((⟨n.toArray⟩:ByteArray)[k]'hsz).toNat:Int)≤96:=by omega
     have f2:((((⟨n.toArray⟩:ByteArray)[k]'hsz).toNat:Int)==46)=false:=by simp;omega
     have f3:((((⟨n.toArray⟩:ByteArray)[k]'hsz).toNat:Int)==45)=false:=by simp;omega
     have f5:((((⟨n.toArray⟩:ByteArray)[k]'hsz).toNat:Int)!=46)=true:=by simp;omega
     have f6:((((⟨n.toArray⟩:ByteArray)[k]'hsz).toNat:Int)!=45)=true:=by simp;omega
     have f7:¬ (((⟨n.toArray⟩:ByteArray)[k]'hsz).toNat:Int)=46:=by omega
     have f8:¬ (((⟨n.toArray⟩:ByteArray)[k]'hsz).toNat:Int)=45:=by omega
     clear h1 h2
     go_wp2
     go_ret
     exact⟨retB (by rw[r.out]),rfl⟩
    ·have f1:(123:Int)≤(((⟨n.toArray⟩:ByteArray)[k]'hsz).toNat:Int):=by omega
     have f2:((((⟨n.toArray⟩:ByteArray)[k]'hsz).toNat:Int)==46)=false:=by simp;omega
     have f3:((((⟨n.toArray⟩:ByteArray)[k]'hsz).toNat:Int)==45)=false:=by simp;omega
     have f5:((((⟨n.toArray⟩:ByteArray)[k]'hsz).toNat:Int)!=46)=true:=by simp;omega
     have f6:((((⟨n.toArray⟩:ByteArray)[k]'hsz).toNat:Int)!=45)=true:=by simp;omega
     have f7:¬ (((⟨n.toArray⟩:ByteArray)[k]'hsz).toNat:Int)=46:=by omega
     have f8:¬ (((⟨n.toArray⟩:ByteArray)[k]'hsz).toNat:Int)=45:=by omega
     clear h1
     go_wp2
     go_ret
     exact⟨retB (by rw[r.out]),rfl⟩
  ·have hall:n.all okChar=true:=by
    have:=HALL.out
    rwa [List.take_of_length_le (by omega)]at this
   by_cases h1:1≤n.length
   ·by_cases h2:n.length≤40
    ·have r:=zH (show okName n=true by
      have:n.isEmpty=false:=by simp;intro e;subst e;simp at h1
      simp[okName,this,h2,hall])
     have f1:decide ((n.length:Int) ≥ 1)=true:=by simp;omega
     have f2:decide ((n.length:Int)≤40)=true:=by simp;omega
     clear hall
     go_wp2
     go_ret
     exact⟨retB (by rw[r.out]),rfl⟩
    ·have r:=zH (show okName n=false by simp[okName,h2])
     have f2:decide ((n.length:Int)≤40)=false:=by simp;omega
     clear hall
     go_wp2
     go_ret
     exact⟨retB (by rw[r.out]),rfl⟩
   ·have r:=zH (show okName n=false by
     have:n=[]:=List.eq_nil_of_length_eq_zero (by omega)
     subst this;rfl)
    have f1:decide ((n.length:Int) ≥ 1)=false:=by simp;omega
    have f1':decide (1≤(n.length:Int))=false:=by simp;omega
    clear hall
    go_wp2
    go_ret
    exact⟨retB (by rw[r.out]),rfl⟩
theorem two_boxes (w:World) (A B:Array Value) (t u:TypeId):Nw w ((w.alloc (.cells A t)).alloc (.cells B u))∧((w.alloc (.cells A t)).alloc (.cells B u)).heap[w.heap.size]? = some (.cells A t (0,0)) ∧
  ((w.alloc (.cells A t)).alloc (.cells B u)).heap[w.heap.size+1]? = some (.cells B u (0,0))∧((w.alloc (.cells A t)).alloc (.cells B u)).heap.size=w.heap.size+2:=by
 refine⟨((Nw.refl w).alloc _).alloc _,?_,?_,by simp⟩
 ·rw[heap_alloc_old _ _ (by simp)];exact heap_alloc_new w _
 ·have:=heap_alloc_new (w.alloc (.cells A t)) (.cells B u)
  simpa using this
structure ROk (r:Dsk):Prop where
 few:r.files.length≤200
 used:usedF r.files≤16777216
 most0:0≤r.most
 most1:r.most≤16777216
 arm0 : -1≤r.arm
 arm1:r.arm≤9223372036854775807
theorem ROk.of {d r:Dsk}(ok:d.Ok) (h:RefOf d r):ROk r:=by
 refine⟨?_,?_,?_,?_,?_,?_⟩
 ·rw[h.len ok];exact ok.few
 ·rw[h.used ok];have:=ok.used;have:=ok.most1;omega
 ·rw[h.most];exact ok.most0
 ·rw[h.most];exact ok.most1
 ·rw[h.arm];exact ok.arm0
 ·rw[h.arm];exact ok.arm1
end Go.Proofs.YtkbenkldfehhlaaGreatDoor
