/-
  Texts merged by a program of this claim's: Ref02I, DocA, LogH, Fork.
-/
import Derived.Test.YtkbenkldfehhlaaGreatDoorM14
import Derived.Test.YtkbenkldfehhlaaGreatDoorM15
import Derived.Test.YtkbenkldfehhlaaGreatDoorM6
import Derived.Test.YtkbenkldfehhlaaGreatDoorM11
import Derived.Test.YtkbenkldfehhlaaGreatDoorM10
namespace Go.Proofs.YtkbenkldfehhlaaGreatDoor
open Go Go.RowKit Go.Sort
set_option maxRecDepth 100000
set_option maxHeartbeats 3200000
section
variable {X:Nat→Prop}
end
set_option maxHeartbeats 1600000
theorem mem_getF:∀{L:List (Str×DFile)}{n:Str}{f:DFile},getF L n=some f→(n,f)∈L
 |[],_,_,h=>by simp[getF]at h
 |(k,g)::L,n,f,h=>by
  by_cases e:k=n
  ·simp only[getF,if_pos e]at h
   obtain rfl:=Option.some.inj h
   rw[e];exact List.mem_cons_self
  ·simp only[getF,if_neg e]at h
   exact List.mem_cons_of_mem _ (mem_getF h)
def RD (X:Nat→Prop) (w:World) (v:Value) (d:Dsk):Prop:=d.Ok∧∃r,RefD X w v r∧RefOf d r
section
variable {X Y S:Nat→Prop}{w w':World}{v:Value}{d d':Dsk}
theorem RD.ok (h:RD X w v d):d.Ok:=h.1
theorem RD.nw (h:RD X w v d) (hw:Nw w w'):RD X w' v d:=⟨h.1,h.2.elim fun r hr=>⟨r,hr.1.nw hw,hr.2⟩⟩
theorem RD.mono (h:RD X w v d) (hy:∀k,X k→Y k):RD Y w v d:=⟨h.1,h.2.elim fun r hr=>⟨r,hr.1.mono hy,hr.2⟩⟩
theorem RD.narrow (h:RD X w v d):RD (fun k=>X k∧k<w.heap.size) w v d:=⟨h.1,h.2.elim fun r hr=>⟨r,hr.1.narrow,hr.2⟩⟩
theorem RD.put (h:RD X w v d) (hw:Only S w w') (hs:∀k,X k→k<w.heap.size→¬ S k):RD X w' v d:=
 ⟨h.1,h.2.elim fun r hr=>⟨r,hr.1.kept ⟨hw.size,fun k hk hl=>hw.block k hl (hs k hk hl)⟩,hr.2⟩⟩
theorem RD.in_ (h:RD X w v d) (hw:Nw w w'):RD (fun k=>X k∧k<w.heap.size∨w'.heap.size≤k) w' v d:=(h.narrow.nw hw).mono fun _ hk=>.inl hk
theorem RD.parts (h:RD X w v d):∃(m:Int) (a:Option Addr) (n c:Nat) (la:Int) (dn:Bool),v=.agg #[.int .i64 m,.slice a n c,.int .i64 la,.bool dn]:=by
 obtain⟨-,r,hr,-⟩:=h
 obtain⟨a,c,rfl⟩:=hr.parts
 exact⟨_,_,_,_,_,_,rfl⟩
def RDE (X:Nat→Prop) (w:World) (d':Dsk) (x:Int) (e:Ending) (w':World):Prop:=
 ∃(m:Int) (a:Option Addr) (n c:Nat) (la:Int) (dn:Bool),e=.returned (.tuple #[.agg #[.int .i64 m,.slice a n c,.int .i64 la,.bool dn],.int .i64 x])∧RD X w' (.agg #[.int .i64 m,.slice a n c,.int .i64 la,.bool dn]) d'∧Nw w w'
theorem RDE.of {P:Program}{f:FuncId}{args:Array Value}{x:Int}{r':Dsk}(ok:d'.Ok) (ho:RefOf d' r') (h:Calls P f args w fun e w'=>∃v',e=.returned (.tuple #[v',.int .i64 x])∧RefD X w' v' r'∧Nw w w'):Calls P f args w (RDE X w d' x):=by
 refine h.mono ?_
 rintro e w' ⟨v',rfl,h1,h2⟩
 obtain⟨a,c,rfl⟩:=h1.parts
 exact⟨_,_,_,_,_,_,rfl,⟨ok,r',h1,ho⟩,h2⟩
theorem RD.append (h:RD X w v d) (hX:∀k,w.heap.size≤k→X k){u:Value}{n:Str}{l:List UInt8}(hn:n.length≤9223372036854775807) (hl:Bs w u l) (hll:l.length≤16777216){x:Int}(hr:d.append n l=(d',x)) :
  Calls Tryz.prog 39 #[v,.string ⟨n.toArray⟩,u] w (RDE X w d' x):=by
 obtain⟨ok,r,h1,h2⟩:=h
 obtain⟨r',hr',ho'⟩:=ref_append ok h2 hr
 have:=rAppend_ok hX h1 (ROk.of ok h2) n hn l hl hll
 rw[hr']at this
 exact RDE.of (ok_append ok hr) ho' this
theorem RD.sync (h:RD X w v d) (hX:∀k,w.heap.size≤k→X k){n:Str}{x:Int}(hr:d.sync n=(d',x)) :
  Calls Tryz.prog 79 #[v,.string ⟨n.toArray⟩] w (RDE X w d' x):=by
 obtain⟨ok,r,h1,h2⟩:=h
 obtain⟨r',hr',ho'⟩:=ref_sync h2 hr
 have:=rSync_ok hX h1 (ROk.of ok h2) n
 rw[hr']at this
 exact RDE.of (ok_sync ok hr) ho' this
theorem RD.remove (h:RD X w v d) (hX:∀k,w.heap.size≤k→X k){n:Str}{x:Int}(hr:d.remove n=(d',x)) :
  Calls Tryz.prog 60 #[v,.string ⟨n.toArray⟩] w (RDE X w d' x):=by
 obtain⟨ok,r,h1,h2⟩:=h
 obtain⟨r',hr',ho'⟩:=ref_remove ok h2 hr
 have:=rRemove_ok hX h1 (ROk.of ok h2) n
 rw[hr']at this
 exact RDE.of (ok_remove ok hr) ho' this
theorem RD.rename (h:RD X w v d) (hX:∀k,w.heap.size≤k→X k){n m:Str}(hm:m.length≤9223372036854775807){x:Int}(hr:d.rename n m=(d',x)) :
  Calls Tryz.prog 125 #[v,.string ⟨n.toArray⟩,.string ⟨m.toArray⟩] w (RDE X w d' x):=by
 obtain⟨ok,r,h1,h2⟩:=h
 obtain⟨r',hr',ho'⟩:=ref_rename ok h2 hr
 have:=rRename_ok hX h1 (ROk.of ok h2) n m hm
 rw[hr']at this
 exact RDE.of (ok_rename ok hr) ho' this
theorem RD.cut (h:RD X w v d) (hX:∀k,w.heap.size≤k→X k){n:Str}{k:Int}{x:Int}(hr:d.cut n k=(d',x)) :
  Calls Tryz.prog 59 #[v,.string ⟨n.toArray⟩,.int .i64 k] w (RDE X w d' x):=by
 obtain⟨ok,r,h1,h2⟩:=h
 obtain⟨r',hr',ho'⟩:=ref_cut h2 hr
 have:=rCut_ok hX h1 (ROk.of ok h2) n k
 rw[hr']at this
 exact RDE.of (ok_cut ok hr) ho' this
def RD1 (X:Nat→Prop) (w:World) (d':Dsk) (e:Ending) (w':World):Prop:=
 ∃(m:Int) (a:Option Addr) (n c:Nat) (la:Int) (dn:Bool),e=.returned (.agg #[.int .i64 m,.slice a n c,.int .i64 la,.bool dn])∧RD X w' (.agg #[.int .i64 m,.slice a n c,.int .i64 la,.bool dn]) d'∧Nw w w'
theorem RD.arm (h:RD X w v d){k:Int}(hk:k≤9223372036854775807):Calls Tryz.prog 14 #[v,.int .i64 k] w (RD1 X w (d.armed k)):=by
 obtain⟨ok,r,h1,h2⟩:=h
 refine (rArm_ok h1 k).mono ?_
 rintro e w' ⟨v',rfl,g1,g2⟩
 obtain⟨a,c,rfl⟩:=g1.parts
 exact⟨_,_,_,_,_,_,rfl,⟨ok.armed k hk,_,g1,ref_arm h2 k⟩,g2⟩
theorem RD.read (h:RD X w v d){n:Str}{l:List UInt8}{x:Int}(hr:d.read n=(l,x)) :
  Calls Tryz.prog 45 #[v,.string ⟨n.toArray⟩] w fun e w'=>∃a c,e=.returned (.tuple #[.slice a l.length c,.int .i64 x])∧Bs w' (.slice a l.length c) l∧Nw w w':=by
 obtain⟨ok,r,h1,h2⟩:=h
 have:=rRead_ok h1 n
 rw[ref_read h2,hr]at this
 refine Calls.mono this ?_
 rintro e w' ⟨v',rfl,g1,g2⟩
 obtain⟨a,c,rfl,-⟩:=Rd.len g1
 exact⟨a,c,rfl,g1,g2⟩
end
section
variable {X Y:Nat→Prop}{w0 w w':World}{p b:Nat}{d d':Dsk}{L:Lg}
theorem nameAt {w:World}{p b:Nat}{L:Lg}{g o cap:Nat}(h:LogM w p b L g o cap):w.cell? ⟨p,0,none⟩=some (.pointer (some ⟨b,0,none⟩))∧w.cell? ⟨g,o+(L.l.length-1)*4,none⟩=some (.string ⟨(lastP L.l).name.toArray⟩)∧w.cell? ⟨p,3,none⟩=some (.int .i64 L.n):=⟨h.cells.1,h.last.1,h.cells.2.2.2.1⟩
theorem LSync_ok (h:HasL X w0 w p b d L):Calls Tryz.prog 30 #[.pointer (some ⟨p,0,none⟩)] w (DidL X w0 w p b (L.sync d).d (L.sync d).L (.int .i64 (L.sync d).e)):=by
 obtain⟨g,o,cap,h⟩:=h
 have H:=zH h
 have hpl:=lt_of_block h.mem.blk
 cases hov:L.over
 case true =>
  have E:Hid (L.sync d=⟨d,L,16⟩):=zH (by unfold Lg.sync;rw[hov];rfl)
  have HU:=zH (lup_ok h.mem)
  rw[hov]at HU
  rw[E.out]
  clear h hov E
  go_enter Tryz.func30,Tryz.ntmps30
  go_wp2_with fail
  refine HU.out.mono ?_
  rintro e w1 ⟨rfl,rfl⟩
  go_wp2
  go_ret
  exact⟨rfl,⟨g,o,cap,H.out⟩,Kept.refl _⟩
 case false =>
  obtain⟨r,hr⟩:=zN (d.sync (lastP L.l).name)
  have E1:Hid (r.2≠0→L.sync d=⟨r.1,{ L with over:=true },r.2⟩):=zH (fun hx=>by unfold Lg.sync;rw[hov,hr,if_neg (by simp),if_pos hx])
  have E2:Hid (r.2=0→L.sync d=⟨r.1,{ L with acked:=L.n },0⟩):=zH (fun hx=>by unfold Lg.sync;rw[hov,hr,if_neg (by simp),if_neg (by simp[hx])])
  have HR:=zH hr
  have HOV:=zH hov
  have HU:=zH (lup_ok h.mem)
  rw[hov]at HU
  obtain⟨-,-,-,-,hg,hl0,-⟩:=h.mem.last
  clear h hov hr hl0
  go_enter Tryz.func30,Tryz.ntmps30
  go_wp2_with fail
  refine HU.out.mono ?_
  rintro e w1 ⟨rfl,rfl⟩
  go_upto_region 4 with fail
  have HO:Hid (∀W,Nw w W→Calls Tryz.prog 73 #[.pointer (some ⟨p,0,none⟩)] W fun e w'=>e=.returned (.pointer (some ⟨g,o+(L.l.length-1)*4,none⟩))∧Nw W w'):=zH (fun W hW=>lopen_ok (H.out.nw hW).mem)
  have HC:Hid (∀W,Nw w W→W.cell? ⟨p,0,none⟩=some (.pointer (some ⟨b,0,none⟩))∧W.cell? ⟨g,o+(L.l.length-1)*4,none⟩=some (.string ⟨(lastP L.l).name.toArray⟩)∧p<W.heap.size∧g<W.heap.size):=zH (fun W hW=>⟨hW.cell (nameAt H.out.mem).1,hW.cell (nameAt H.out.mem).2.1,Nat.lt_of_lt_of_le hpl hW.size,Nat.lt_of_lt_of_le hg hW.size⟩)
  generalize o+(L.l.length-1)*4=q at HO HC
  generalize hnm:(lastP L.l).name=nm at HC
  rw[hnm]at HR
  refine wp_region_steps 10 [.rd 0,.rd 1,.rd 2,.rd 3,.rd 4,.dn 5,.rd 6,.rd 7,.rd 8,.dn 9] [10] (fun x=>x.cell? ⟨p,0,none⟩=some (.pointer (some ⟨b,0,none⟩))∧x.cell? ⟨g,q,none⟩=some (.string ⟨nm.toArray⟩)∧p<x.heap.size∧g<x.heap.size) (by kernel_rfl) (by kernel_rfl) (fun _ _ _ _ _ h=>h) (HC.out _ ((Nw.refl w).drew)) ?_
  refine stp_to (.pointer (some ⟨p,0,none⟩)) rfl rfl rfl (fun x hx=>by go_simp) (fun K hK=>?_);go_simp;refine hK _ ?_;clear hK K
  refine stp_to (.pointer (some ⟨p,0,none⟩)) rfl rfl rfl (fun x hx=>by obtain⟨e1,e2,e3,e4⟩:=hx;go_simp) (fun K hK=>?_);go_simp;refine hK _ ?_;clear hK K
  refine stp_to (.pointer (some ⟨p,0,none⟩)) rfl rfl rfl (fun x hx=>by obtain⟨e1,e2,e3,e4⟩:=hx;go_simp) (fun K hK=>?_);go_simp;refine hK _ ?_;clear hK K
  refine stp_to (.pointer (some ⟨b,0,none⟩)) rfl rfl rfl (fun x hx=>by obtain⟨e1,e2,e3,e4⟩:=hx;go_simp) (fun K hK=>?_);go_simp;refine hK _ ?_;clear hK K
  refine stp_to (.pointer (some ⟨p,0,none⟩)) rfl rfl rfl (fun x hx=>by go_simp) (fun K hK=>?_);go_simp;refine hK _ ?_;clear hK K
  refine stp_dn rfl (fun K hK=>?_)
  go_wp2_with fail
  go_at_call 73
  refine (HO.out _ ((Nw.refl w).drew)).mono ?_
  rintro e w1 ⟨rfl,n1⟩
  have N1:=zH (((Nw.refl w).drew).trans n1)
  clear n1 HO
  go_wp2
  refine hK _ _ (HC.out _ N1.out) ?_;clear hK K
  refine stp_to (.pointer (some ⟨g,q,none⟩)) rfl rfl rfl (fun x hx=>by obtain⟨e1,e2,e3,e4⟩:=hx;go_simp) (fun K hK=>?_);go_simp;refine hK _ ?_;clear hK K
  refine stp_to (.pointer (some ⟨g,q,none⟩)) rfl rfl rfl (fun x hx=>by obtain⟨e1,e2,e3,e4⟩:=hx;go_simp) (fun K hK=>?_);go_simp;refine hK _ ?_;clear hK K
  refine stp_to (.string ⟨nm.toArray⟩) rfl rfl rfl (fun x hx=>by obtain⟨e1,e2,e3,e4⟩:=hx;go_simp) (fun K hK=>?_);go_simp;refine hK _ ?_;clear hK K
  have H1:=zH (H.out.nw N1.out)
  refine stp_dn rfl (fun K hK=>?_)
  go_wp2_with fail
  go_at_call 78
  refine (H1.out.disk.sync nm (by rw[HR.out])).mono ?_
  rintro e w2 ⟨rfl,q1,q2⟩
  have H2:=zH (H1.out.disk' q1 q2)
  have K2:Hid (Kept X w w2):=zH (N1.out.kept.trans (q2.weak fun k hk=>.inl hk))
  have hc2:w2.cell? ⟨p,0,none⟩=some (.pointer (some ⟨b,0,none⟩))∧w2.cell? ⟨g,q,none⟩=some (.string ⟨nm.toArray⟩)∧p<w2.heap.size∧g<w2.heap.size:=by
   obtain⟨e1,e2,e3,e4⟩:=HC.out _ N1.out
   exact⟨q2.cell e1 (.inr (.inl rfl)),q2.cell e2 (.inr (.inr rfl)),Nat.lt_of_lt_of_le e3 q2.1,Nat.lt_of_lt_of_le e4 q2.1⟩
  clear q1 q2
  go_wp2
  refine hK _ _ hc2 ?_;clear hK K hc2
  refine wpSteps_nil ?_
  refine stp_do rfl (by decide) (fun K hK=>?_)
  go_wp2
  (try (refine hK _ _ ?_;clear hK K))
  refine wpNums_nil ?_
  by_cases hx:r.2=0
  ·have E:=zH (E2.out hx)
   obtain⟨-,-,-,c3,c4,-,-,cf⟩:=H2.out.mem.cells
   have f4:=cf 4
   have hp2:=lt_of_block H2.out.mem.blk
   obtain⟨rd,rx⟩:=r
   simp only at hx
   subst hx
   clear cf
   go_wp2
   go_ret
   rw[E.out]
   have hb:=heap_setCell_at H2.out.mem.blk 4 (.int .i64 L.n)
   have:=H2.out.put { L with acked:=L.n } (W:=w2.setCell ⟨p,4,none⟩ (.int .i64 L.n)) (Only.setCell (S:=fun k=>k=p) (p:=⟨p,4,none⟩) (Only.refl w2) (fun _=>rfl) _) (by rw[hb];rfl) rfl
   exact⟨rfl,⟨g,o,cap,this.1⟩,K2.out.trans this.2⟩
  ·have E:=zH (E1.out hx)
   have hb:(r.2 !=0)=true:=by simpa using hx
   have HLE:=zH (lends_ok H2.out r.2)
   have HX:=zH hx
   clear hx
   go_wp2_with fail
   refine HLE.out.mono ?_
   rintro e w3 ⟨rfl,q1,q2⟩
   have Z:=zH (And.intro q1 q2)
   clear q1 q2
   go_wp2
   go_ret
   rw[E.out]
   refine⟨rfl,?_,K2.out.trans Z.out.2⟩
   have:=Z.out.1
   rw[decide_eq_true HX.out]at this
   exact this
end
end Go.Proofs.YtkbenkldfehhlaaGreatDoor
namespace Go.Proofs.YtkbenkldfehhlaaGreatDoor
open Go Go.RowKit
section
variable {P:Program}{ops:Array Oper}{md:Region.Mode}{C:World→Prop}{Q:Exit→Act→World→Prop}
def Region.stepsF (md:Region.Mode) (ops:Array Oper) (n:Nat) (F:Array Bool→Bool):List Stp→Array Bool→Bool
 |[],listed=>F listed
 | .rd i::l,listed=>decide (i<n) && (Region.ready md ops listed).contains i && Region.free md ops listed i && Region.stepsF md ops n F l (listed.setIfInBounds i true)
 | .dn i::l,listed=>decide (i<n) && decide (Region.ready md ops listed=[i]) && Region.stepsF md ops n F l (listed.setIfInBounds i true)
theorem wpAnyK_stepsF {n g:Nat}{F:Array Bool→Bool}{K:Act→World→Prop}(hsel:Region.noSelect ops=true) (hs:Region.sinkB md ops n=true) (hc:Region.chainB md ops n=true) (hn:n<ops.size)
  (hQ:∀(c:List PanicEntry) (a:Act) (d:Tmp) (v:Value) (w:World),Q (.panic c) (a.put (some d) v) w→Q (.panic c) a w)
  (hK:∀listed a w,C w→HeadInv md ops n listed→F listed=true→K a w→wpAnyK P md ops C n Q g listed a w) :
  ∀(l:List Stp) (listed:Array Bool) (a:Act) (w:World),C w→HeadInv md ops n listed→Region.stepsF md ops n F l listed=true→wpSteps P ops C Q K l a w →
   wpAnyK P md ops C n Q (l.length+g) listed a w
 |[],listed,a,w,hC,inv,hB,h=>by rw[List.length_nil,Nat.zero_add];exact hK listed a w hC inv hB h
 | .dn i::l,listed,a,w,hC,inv,hB,h=>by
  simp only[Region.stepsF,Bool.and_eq_true,decide_eq_true_eq]at hB
  rw[show (Stp.dn i::l).length+g=(l.length+g)+1 by simp only[List.length_cons];omega]
  refine⟨fun h1=>(by rw[hB.1.2]at h1;cases h1),fun j hj=>?_⟩
  have hji:j=i:=by rw[hB.1.2]at hj;simpa using hj
  subst hji
  exact wpOp_mono (fun a' w' h'=>⟨fun _=>h'.1,wpAnyK_stepsF hsel hs hc hn hQ hK l _ a' w' h'.1 (inv.set hj hB.1.1) hB.2 h'.2⟩) h
 | .rd i::l,listed,a,w,hC,inv,hB,h=>by
  simp only[Region.stepsF,Bool.and_eq_true,decide_eq_true_eq]at hB
  obtain⟨⟨⟨hin,hr⟩,hf⟩,hB'⟩:=hB
  have hr':i∈Region.ready md ops listed:=by simpa using hr
  obtain⟨hun,o,ho,_⟩:=mem_ready.1 hr'
  simp only[wpSteps,ho]at h
  have key:∃v,YieldsW P ops C o v a∧wpSteps P ops C Q K l (a.put o.dst v) w:=by
   by_cases hw:Region.wanted o (yielded ops a.tmps)=true
   ·simp only[hw,if_true]at h
    obtain⟨v,h1,h2⟩:=h
    exact⟨v,.inl ⟨hw,h1⟩,h2⟩
   ·simp only[hw]at h
    exact⟨undef,.inr ⟨by simpa using hw,rfl⟩,h⟩
  obtain⟨v,hy,hK'⟩:=key
  rw[show (Stp.rd i::l).length+g=(l.length+g)+1 by simp only[List.length_cons];omega]
  exact wpAnyK_first ho (Region.noSelect_spec hsel) (fun c a w h=>by cases hdst:o.dst with|none=>(rw[hdst]at h;exact h)|some d=>(rw[hdst]at h;exact hQ c a d v w h)) hs hc hn hin (l.length+g) listed a w hC inv (Region.free_spec ho hf) hr' hy
   (wpAnyK_stepsF hsel hs hc hn hQ hK l _ _ w hC (inv.set hr' hin) hB' hK')
def wpFork (P:Program) (ops:Array Oper) (C:World→Prop) (Q:Exit→Act→World→Prop) (K:Act→World→Prop) (i j:Nat) (s1 s2:List Stp) (a:Act) (w:World):Prop:=
 wpSteps P ops C Q K (.dn i::s1) a w∧wpSteps P ops C Q K (.dn j::s2) a w
def Region.forkB (md:Region.Mode) (ops:Array Oper) (n:Nat) (r:List Nat) (i j:Nat) (s1 s2:List Stp) (listed:Array Bool):Bool:=
 decide (i<n) && decide (j<n) && decide (Region.ready md ops listed=[i,j]) && decide (s1.length=s2.length) && Region.stepsB md ops n r s1 (listed.setIfInBounds i true) && Region.stepsB md ops n r s2 (listed.setIfInBounds j true)
theorem wpAnyK_fork {n:Nat}(hsel:Region.noSelect ops=true) (hs:Region.sinkB md ops n=true) (hc:Region.chainB md ops n=true) (hn:n<ops.size)
  (hQ:∀(c:List PanicEntry) (a:Act) (d:Tmp) (v:Value) (w:World),Q (.panic c) (a.put (some d) v) w→Q (.panic c) a w) (r:List Nat) (i j:Nat) (s1 s2:List Stp) (listed:Array Bool) (a:Act) (w:World)
  (_hC:C w) (inv:HeadInv md ops n listed) (hB:Region.forkB md ops n r i j s1 s2 listed=true) (h:wpFork P ops C Q (fun a' w'=>wpNums P ops C n Q r a' w') i j s1 s2 a w):wpAnyK P md ops C n Q (s1.length+r.length+1) listed a w:=by
 simp only[Region.forkB,Bool.and_eq_true,decide_eq_true_eq]at hB
 obtain⟨⟨⟨⟨⟨hi,hj⟩,hr⟩,hl⟩,h1⟩,h2⟩:=hB
 refine⟨fun h0=>(by rw[hr]at h0;cases h0),fun k hk=>?_⟩
 have hkk:k=i∨k=j:=by rw[hr]at hk;simpa using hk
 rcases hkk with rfl|rfl
 ·exact wpOp_mono (fun a' w' h'=>⟨fun _=>h'.1,wpAnyK_steps hsel hs hc hn hQ r s1 _ a' w' h'.1 (inv.set hk hi) h1 h'.2⟩) h.1
 ·rw[hl]
  exact wpOp_mono (fun a' w' h'=>⟨fun _=>h'.1,wpAnyK_steps hsel hs hc hn hQ r s2 _ a' w' h'.1 (inv.set hk hj) h2 h'.2⟩) h.2
def Region.fkB (ops:Array Oper) (n:Nat) (l:List Stp) (i j:Nat) (s1 s2:List Stp) (r:List Nat):Bool:=
 Region.noSelect ops && decide (n<ops.size) && Region.sinkB .any ops n && Region.chainB .any ops n && decide (l.length+(s1.length+r.length+1)=ops.size) && Region.stepsF .any ops n (Region.forkB .any ops n r i j s1 s2) l (Array.replicate ops.size false)
theorem wp_region_fork {id:Nat}{a:Act}{w:World}{l:List Oper}(n:Nat) (st:List Stp) (i j:Nat) (s1 s2:List Stp) (r:List Nat) (C:World→Prop) (hm:P.follows .mixedOrders=true) (hB:Region.fkB l.toArray n st i j s1 s2 r=true)
  (hQ:∀(c:List PanicEntry) (a:Act) (d:Tmp) (v:Value) (w:World),Q (.panic c) (a.put (some d) v) w→Q (.panic c) a w) (hC:C w.drew)
  (h:wpSteps P l.toArray C Q (wpFork P l.toArray C Q (fun a' w'=>wpNums P l.toArray C n Q r a' w') i j s1 s2) st a w.drew):(Code.region id l.toArray true).wp P Q a w:=by
 simp only[Region.fkB,Bool.and_eq_true,decide_eq_true_eq]at hB
 obtain⟨⟨⟨⟨⟨hsel,hn⟩,hs⟩,hc⟩,hlen⟩,hR⟩:=hB
 have inv0:HeadInv .any l.toArray n (Array.replicate l.toArray.size false):=
  ⟨by simp,fun j oj _ hl=>(by rw[getD_replicate_false]at hl;cases hl),fun t _ ht=>getD_in (by simpa using ht) (getD_replicate_false _ _)⟩
 have H:=wpAnyK_stepsF (md:=.any) (K:=wpFork P l.toArray C Q (fun a' w'=>wpNums P l.toArray C n Q r a' w') i j s1 s2) hsel hs hc hn hQ (fun listed a w hC inv hF hK=>wpAnyK_fork hsel hs hc hn hQ r i j s1 s2 listed a w hC inv hF hK) st _ a w.drew hC inv0 hR h
 have H':=wpAny_of_K _ _ _ _ H
 rw[hlen]at H'
 exact wp_region_any hm H'
end
end Go.Proofs.YtkbenkldfehhlaaGreatDoor
