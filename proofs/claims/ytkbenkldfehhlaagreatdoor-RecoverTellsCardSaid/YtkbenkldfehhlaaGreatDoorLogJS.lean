/-
  Texts merged by a program of this claim's: LogJ.
-/
import Derived.Test.YtkbenkldfehhlaaGreatDoorLogIS
import Derived.Test.YtkbenkldfehhlaaGreatDoorM18
namespace Go.Proofs.YtkbenkldfehhlaaGreatDoor
open Go Go.RowKit Go.Sort
set_option maxRecDepth 100000
set_option maxHeartbeats 1600000
theorem Frame_no {w:World}{v:Value}{l:List Ev}(hv:Evs w v l) (x:Int) (h:(l.length=0∧x=2)∨(4096<l.length∧x=3)) :
  Calls Tryz.prog 72 #[v] w fun e w'=>e=.returned (.tuple #[.slice none 0 0,.int .i64 x])∧w=w':=by
 obtain⟨a,cap,rfl,hm,-⟩:=hv.elem
 clear hv
 unfold maxLen at hm
 rcases h with ⟨h0,rfl⟩|⟨h1,rfl⟩
 ·rw[h0]at hm ⊢
  go_enter Tryz.func72,Tryz.ntmps72
  go_wp2
  refine bodyPost_ret (v:=.tuple #[.slice none 0 0,.int .i64 2]) (by simp[results,Tryz.results72,go_sem]) rfl ⟨rfl,rfl⟩
 ·go_enter Tryz.func72,Tryz.ntmps72
  go_wp2
  refine bodyPost_ret (v:=.tuple #[.slice none 0 0,.int .i64 3]) (by simp[results,Tryz.results72,go_sem]) rfl ⟨rfl,rfl⟩
section
variable {X:Nat→Prop}{w0 w w':World}{p b:Nat}{d d':Dsk}{L:Lg}
theorem HasL.wider {Z:Nat→Prop}(h:HasL X w0 w p b d L) (hw:Nw w w') (hz:∀k,Z k→X k∨w.heap.size≤k∧k<w'.heap.size):HasL Z w0 w' p b d L:=by
 obtain⟨g,o,cap,h⟩:=h
 have h2:=h.nw hw
 have hp:=lt_of_block h.mem.blk
 refine⟨g,o,cap,h2.mem,h.disk.nwY hw (fun k hk=>?_),h.p0,fun hz'=>?_,h.g0,h.g1.1,fun hz'=>?_⟩
 ·rcases hk with hk|hk
  ·exact (hz k hk).imp .inl id
  ·exact .inl (.inr hk)
 ·rcases hz p hz' with e|e
  ·exact h.p1 e
  ·omega
 ·rcases hz g hz' with e|e
  ·exact h.g1.2 e
  ·have:=h.mem.last.2.2.2.2.1
   omega
theorem DidL.weak {Z:Nat→Prop}{v:Value}{e:Ending}{L':Lg}(h:DidL Z w0 w p b d' L' v e w') (hz:∀k,X k→Z k):DidL X w0 w p b d' L' v e w':=by
 obtain⟨he,⟨g,o,cap,h1⟩,h2⟩:=h
 exact⟨he,⟨g,o,cap,h1.mem,h1.disk.weak (fun k hk=>hk.imp (hz k) id),h1.p0,fun hx=>h1.p1 (hz p hx),h1.g0,h1.g1.1,fun hx=>h1.g1.2 (hz g hx)⟩,h2.weak hz⟩
theorem another_small (L:Lg) (d:Dsk):(L.another d).L.n=L.n∧((L.another d).L.bytes=L.bytes∨(L.another d).L.bytes=(headB L.n).length):=by
 unfold Lg.another
 repeat' split
 all_goals exact⟨rfl,by first|exact .inl rfl|exact .inr rfl⟩
def PutOk (L:Lg):Prop:=L.n≤4611686018427387904∧L.bytes≤4611686018427387904
theorem LAppend_ok (h:HasL X w0 w p b d L) (ht:Tab w0) (hb:PutOk L) (hf:0≤(lastP L.l).first) (hll:L.l.length≤1000) (hsz:in64 L.size){v:Value}{es:List Ev}(hv:Evs w v es) (_hok:∀q∈L.l,q.Ok) :
  Calls Tryz.prog 28 #[.pointer (some ⟨p,0,none⟩),v] w (DidL X w0 w p b (L.add d es).d (L.add d es).L (.int .i64 (L.add d es).e)):=by
 obtain⟨a,cp,rfl,-,-⟩:=hv.elem
 cases hov:L.over
 case true =>
  obtain⟨g,o,cap,h⟩:=h
  have H:=zH h
  have HU:=zH (lup_ok h.mem)
  rw[hov]at HU
  have E:Hid (L.add d es=⟨d,L,16⟩):=zH (by unfold Lg.add;rw[if_pos hov])
  rw[E.out]
  clear h hov E hv
  go_enter Tryz.func28,Tryz.ntmps28
  go_wp2_with fail
  refine HU.out.mono ?_
  rintro e w1 ⟨rfl,rfl⟩
  go_wp2
  go_ret
  exact⟨rfl,⟨g,o,cap,H.out⟩,Kept.refl _⟩
 by_cases hbad:es.length=0∨4096<es.length
 case pos =>
  obtain⟨g,o,cap,h⟩:=h
  have H:=zH h
  have HU:=zH (lup_ok h.mem)
  rw[hov]at HU
  obtain⟨x,hx,hx0⟩:∃x:Int,((es.length=0∧x=2)∨(4096<es.length∧x=3))∧x≠0:=by
   rcases hbad with h|h
   ·exact⟨2,.inl ⟨h,rfl⟩,by decide⟩
   ·exact⟨3,.inr ⟨h,rfl⟩,by decide⟩
  have E:Hid (L.add d es=⟨d,L,x⟩):=zH (by
   unfold Lg.add
   rcases hx with ⟨h0,rfl⟩|⟨h0,rfl⟩
   ·rw[if_neg (by simp[hov]),if_pos h0]
   ·rw[if_neg (by simp[hov]),if_neg (by omega),if_pos h0])
  rw[E.out]
  have HF:=zH (Frame_no hv x hx)
  have hxb:(x !=0)=true:=by simpa using hx0
  clear h hov E hv hx hbad hx0
  go_enter Tryz.func28,Tryz.ntmps28
  go_wp2_with fail
  refine HU.out.mono ?_
  rintro e w1 ⟨rfl,rfl⟩
  go_wp2_with fail
  refine HF.out.mono ?_
  rintro e w1 ⟨rfl,rfl⟩
  go_wp2
  go_ret
  exact⟨rfl,⟨g,o,cap,H.out⟩,Kept.refl _⟩
 have hes1:es.length≠0:=fun h=>hbad (.inl h)
 have hes2:es.length≤4096:=by omega
 have EA:Hid (L.add d es=if (L.roomed d).e≠0 then ⟨(L.roomed d).d,{ (L.roomed d).L with over:=true },(L.roomed d).e⟩ else (L.roomed d).L.put (L.roomed d).d es):=zH (by
  unfold Lg.add;rw[if_neg (by simp[hov]),if_neg hes1,if_neg (by omega)])
 have HL:=zH h
 have HT:=zH ht
 have HV:=zH hv
 have HFR:=zH (Frame_ok hv hes1 hes2)
 have HLN:=zH (frameB_len sumB_len es hes2)
 have HB:=zH hb
 have HF:=zH hf
 have HLL:=zH hll
 have HSZ:=zH hsz
 obtain⟨fb,hfb⟩:=zN (frmB es)
 have EF:=zH hfb
 rw[hfb]at HFR
 rw[show frameB sumB es=fb from hfb]at HLN
 have HU:Hid (Calls Tryz.prog 71 #[.pointer (some ⟨p,0,none⟩)] w fun e w'=>e=.returned (.int .i64 0)∧w=w'):=zH (by
  obtain⟨g,o,cap,h⟩:=h
  have:=lup_ok h.mem
  rw[hov]at this
  exact this)
 have HOV:=zH hov
 obtain⟨ne,hne⟩:=zN (es.length)
 have HNE:=zH hne
 rw[hne]at hes1 hes2 HFR HLN ⊢
 clear h ht hv hb hf hll hsz hfb hov hne hbad
 go_enter Tryz.func28,Tryz.ntmps28
 go_wp2_with fail
 refine HU.out.mono ?_
 rintro e w1 ⟨rfl,rfl⟩
 go_wp2_with fail
 refine HFR.out.mono ?_
 rintro e w1 ⟨vf,rfl,q1,q2,q3⟩
 obtain⟨fa,fc,rfl,-⟩:=q1.len
 have VF:=zH (And.intro q1 (And.intro q2 q3))
 obtain⟨Z,hZ⟩:∃Z:Nat→Prop,Z=fun k=>X k∨(Value.slice fa fb.length fc).ownBlock=some k:=⟨_,rfl⟩
 have L1:Hid (HasL Z w0 w1 p b d L):=zH (HL.out.wider q2 (fun k hk=>by
  rw[hZ]at hk
  exact hk.imp id (fun hk=>⟨q3 k hk,q1.lt k hk⟩)))
 have HZX:Hid (∀k,X k→Z k):=zH (fun k hk=>by rw[hZ];exact .inl hk)
 have HZF:Hid (∀k,(Value.slice fa fb.length fc).ownBlock=some k→Z k):=zH (fun k hk=>by rw[hZ];exact .inr hk)
 clear hZ
 clear q1 q2 q3 HFR HU
 go_upto_region 7 with fail
 obtain⟨g,o,cap,h1⟩:=L1.out
 have H1:=zH h1
 have hp1:=lt_of_block h1.mem.blk
 obtain⟨c0,c1,-,c3,-,c5,-⟩:=h1.mem.cells
 obtain⟨-,l1,-,-,hg1,-⟩:=h1.mem.last
 have hop:=fun W (hW:Nw w1 W)=>lopen_ok (h1.nw hW).mem
 obtain⟨q,hq⟩:=zN (o+(L.l.length-1)*4)
 rw[hq]at l1 hop
 have HO:=zH hop
 have hpf:=HF.out
 obtain⟨fi,hfi⟩:=zN ((lastP L.l).first)
 rw[hfi]at l1 hpf
 have HFI:=zH hfi
 have hc1:∀W,Nw w1 W→(W.cell? ⟨p,1,none⟩=some (.int .i64 L.size)∧W.cell? ⟨p,3,none⟩=some (.int .i64 L.n)∧W.cell? ⟨p,5,none⟩=some (.int .i64 L.bytes)∧W.cell? ⟨g,q+1,none⟩=some (.int .i64 fi))∧p<W.heap.size∧g<W.heap.size:=fun W hW=>⟨⟨hW.cell c1,hW.cell c3,hW.cell c5,hW.cell l1⟩,Nat.lt_of_lt_of_le hp1 hW.size,Nat.lt_of_lt_of_le hg1 hW.size⟩
 have HC:=zH hc1
 clear c0 c1 c3 c5 l1 hop hc1 h1 hfi hq
 by_cases hr1:fi<(L.n:Int)
 case neg =>
  have hd1:decide (fi<(L.n:Int))=false:=by simpa using hr1
  have EQ:Hid (L.add d es=L.put d es):=zH (by
   have:L.roomed d=⟨d,L,0⟩:=by unfold Lg.roomed;rw[HFI.out,if_neg (fun h=>hr1 h.1)]
   rw[EA.out,this];simp)
  refine wp_region_steps 20 [.rd 0,.rd 1,.rd 2,.rd 3,.rd 4,.dn 5,.rd 6,.rd 7,.rd 8,.rd 9,.rd 10,.rd 11,.rd 12,.rd 13,.rd 14,.rd 15,.rd 16,.rd 17,.rd 18,.rd 19] [20] (fun x=>(x.cell? ⟨p,1,none⟩=some (.int .i64 L.size)∧x.cell? ⟨p,3,none⟩=some (.int .i64 L.n)∧x.cell? ⟨p,5,none⟩=some (.int .i64 L.bytes)∧x.cell? ⟨g,q+1,none⟩=some (.int .i64 fi))∧p<x.heap.size∧g<x.heap.size) (by kernel_rfl) (by kernel_rfl) (fun _ _ _ _ _ h=>h) (HC.out _ ((Nw.refl w1).drew)) ?_
  refine stp_to (.pointer (some ⟨p,0,none⟩)) rfl rfl (by kernel_rfl) (fun x hx=>by go_simp) (fun K hK=>?_);go_simp;refine hK _ ?_;clear hK K
  refine stp_to (.pointer (some ⟨p,0,none⟩)) rfl rfl (by kernel_rfl) (fun x hx=>by obtain⟨⟨e1,e2,e3,e4⟩,e5,e6⟩:=hx;go_simp) (fun K hK=>?_);go_simp;refine hK _ ?_;clear hK K
  refine stp_to (.pointer (some ⟨p,3,none⟩)) rfl rfl (by kernel_rfl) (fun x hx=>by obtain⟨⟨e1,e2,e3,e4⟩,e5,e6⟩:=hx;go_simp) (fun K hK=>?_);go_simp;refine hK _ ?_;clear hK K
  refine stp_to (.int .i64 L.n) rfl rfl (by kernel_rfl) (fun x hx=>by obtain⟨⟨e1,e2,e3,e4⟩,e5,e6⟩:=hx;go_simp) (fun K hK=>?_);go_simp;refine hK _ ?_;clear hK K
  refine stp_to (.pointer (some ⟨p,0,none⟩)) rfl rfl (by kernel_rfl) (fun x hx=>by go_simp) (fun K hK=>?_);go_simp;refine hK _ ?_;clear hK K
  refine stp_dn rfl (fun K hK=>?_)
  go_wp2_with fail
  go_at_call 73
  refine (HO.out _ ((Nw.refl w1).drew)).mono ?_
  rintro e w2 ⟨rfl,n2⟩
  have N2:=zH (((Nw.refl w1).drew).trans n2)
  clear n2
  go_wp2
  refine hK _ _ (HC.out _ N2.out) ?_;clear hK K
  refine stp_to (.pointer (some ⟨g,q,none⟩)) rfl rfl (by kernel_rfl) (fun x hx=>by obtain⟨⟨e1,e2,e3,e4⟩,e5,e6⟩:=hx;go_simp) (fun K hK=>?_);go_simp;refine hK _ ?_;clear hK K
  refine stp_to (.pointer (some ⟨g,q+1,none⟩)) rfl rfl (by kernel_rfl) (fun x hx=>by obtain⟨⟨e1,e2,e3,e4⟩,e5,e6⟩:=hx;go_simp) (fun K hK=>?_);go_simp;refine hK _ ?_;clear hK K
  refine stp_to (.int .i64 fi) rfl rfl (by kernel_rfl) (fun x hx=>by obtain⟨⟨e1,e2,e3,e4⟩,e5,e6⟩:=hx;go_simp) (fun K hK=>?_);go_simp;refine hK _ ?_;clear hK K
  refine stp_to (.bool false) rfl rfl (by kernel_rfl) (fun x hx=>by go_simp) (fun K hK=>?_);go_simp;refine hK _ ?_;clear hK K
  refine stp_to (.bool false) rfl rfl (by kernel_rfl) (fun x hx=>by go_simp) (fun K hK=>?_);go_simp
  generalize hA:(⟨_,_⟩:Act)=A0
  have hy:A0.tmps[33]? = some (.bool false):=by rw[←hA];kernel_rfl
  have HA0:=zH hA.symm
  clear hA
  refine hK _ ?_;clear hK K
  refine stp_skip rfl rfl rfl rfl rfl hy ?_
  replace hy:(A0.put (some 34) undef).tmps[33]? = some (.bool false):=(put_at (by decide)).trans hy
  generalize hA:A0.put (some 34) undef=A1 at hy ⊢
  have HA1:=zH hA.symm
  clear hA
  refine stp_skip rfl rfl rfl rfl rfl hy ?_
  replace hy:(A1.put (some 35) undef).tmps[33]? = some (.bool false):=(put_at (by decide)).trans hy
  generalize hA:A1.put (some 35) undef=A2 at hy ⊢
  have HA2:=zH hA.symm
  clear hA
  refine stp_skip rfl rfl rfl rfl rfl hy ?_
  replace hy:(A2.put (some 36) undef).tmps[33]? = some (.bool false):=(put_at (by decide)).trans hy
  generalize hA:A2.put (some 36) undef=A3 at hy ⊢
  have HA3:=zH hA.symm
  clear hA
  refine stp_skip rfl rfl rfl rfl rfl hy ?_
  replace hy:(A3.put (some 37) undef).tmps[33]? = some (.bool false):=(put_at (by decide)).trans hy
  generalize hA:A3.put (some 37) undef=A4 at hy ⊢
  have HA4:=zH hA.symm
  clear hA
  refine stp_skip rfl rfl rfl rfl rfl hy ?_
  replace hy:(A4.put (some 38) undef).tmps[33]? = some (.bool false):=(put_at (by decide)).trans hy
  generalize hA:A4.put (some 38) undef=A5 at hy ⊢
  have HA5:=zH hA.symm
  clear hA
  refine stp_skip rfl rfl rfl rfl rfl hy ?_
  replace hy:(A5.put (some 39) undef).tmps[33]? = some (.bool false):=(put_at (by decide)).trans hy
  generalize hA:A5.put (some 39) undef=A6 at hy ⊢
  have HA6:=zH hA.symm
  clear hA
  refine stp_skip rfl rfl rfl rfl rfl hy ?_
  replace hy:(A6.put (some 40) undef).tmps[33]? = some (.bool false):=(put_at (by decide)).trans hy
  generalize hA:A6.put (some 40) undef=A7 at hy ⊢
  have HA7:=zH hA.symm
  clear hA
  refine stp_skip rfl rfl rfl rfl rfl hy ?_
  replace hy:(A7.put (some 41) undef).tmps[33]? = some (.bool false):=(put_at (by decide)).trans hy
  generalize hA:A7.put (some 41) undef=A8 at hy ⊢
  have HA8:=zH hA.symm
  clear hA
  refine stp_skip_end rfl rfl rfl rfl rfl hy (fun K hK=>?_)
  clear hy
  rw[HA8.out,HA7.out,HA6.out,HA5.out,HA4.out,HA3.out,HA2.out,HA1.out,HA0.out]
  clear HA0 HA1 HA2 HA3 HA4 HA5 HA6 HA7 HA8 A1 A2 A3 A4 A5 A6 A7 A8 A0
  go_simp
  refine hK _ _ ?_;clear hK K
  refine stp_do rfl (by decide) (fun K hK=>?_)
  go_wp2
  (try (refine hK _ _ ?_;clear hK K))
  refine wpNums_nil ?_
  have L3:Hid (HasL Z w0 w2 p b d L):=zH ⟨g,o,cap,H1.out.nw N2.out⟩
  have K3:Hid (Kept Z w w2):=zH (VF.out.2.1.trans N2.out).kept
  have VF3:Hid (Bs w2 (.slice fa fb.length fc) fb):=zH ((VF.out.1.nw N2.out).rd)
  have HB3:Hid (PutOk L):=HB
  go_upto_region 11 with fail
  obtain⟨g3,o3,cap3,h3⟩:=L3.out
  have hp3:=lt_of_block h3.mem.blk
  obtain⟨-,-,-,-,hg3,-⟩:=h3.mem.last
  have hna:=nameAt h3.mem
  have hop:=fun W (hW:Nw w2 W)=>lopen_ok (h3.nw hW).mem
  obtain⟨q3,hq3⟩:=zN (o3+((L).l.length-1)*4)
  rw[hq3]at hop hna
  obtain⟨nm,hnm⟩:=zN ((lastP (L).l).name)
  rw[hnm]at hna
  have HO3:=zH hop
  have hnl:nm.length≤9223372036854775807:=by
   rw[←hnm]
   have hm:lastP (L).l∈(L).l.dropLast++[lastP (L).l]:=by simp
   rw[←split_last h3.mem.some_]at hm
   exact (h3.mem.pcs.ok _ hm).name
  have HNL:=zH hnl
  have HNM:=zH hnm
  have hc3:∀W,Nw w2 W→(W.cell? ⟨p,0,none⟩=some (.pointer (some ⟨b,0,none⟩))∧W.cell? ⟨g3,q3,none⟩=some (.string ⟨nm.toArray⟩))∧p<W.heap.size∧g3<W.heap.size:=fun W hW=>⟨⟨hW.cell hna.1,hW.cell hna.2.1⟩,Nat.lt_of_lt_of_le hp3 hW.size,Nat.lt_of_lt_of_le hg3 hW.size⟩
  have HC3:=zH hc3
  have H3:=zH h3
  clear hop hna hc3 h3 hnm hnl hq3
  refine wp_region_steps 11 [.rd 0,.rd 1,.rd 2,.rd 3,.rd 4,.rd 9,.dn 5,.rd 6,.rd 7,.rd 8,.dn 10] [11] (fun x=>(x.cell? ⟨p,0,none⟩=some (.pointer (some ⟨b,0,none⟩))∧x.cell? ⟨g3,q3,none⟩=some (.string ⟨nm.toArray⟩))∧p<x.heap.size∧g3<x.heap.size) (by kernel_rfl) (by kernel_rfl) (fun _ _ _ _ _ h=>h) (HC3.out _ ((Nw.refl w2).drew)) ?_
  refine stp_to (.pointer (some ⟨p,0,none⟩)) rfl rfl (by kernel_rfl) (fun x hx=>by go_simp) (fun K hK=>?_);go_simp;refine hK _ ?_;clear hK K
  refine stp_to (.pointer (some ⟨p,0,none⟩)) rfl rfl (by kernel_rfl) (fun x hx=>by obtain⟨⟨e1,e2⟩,e3,e4⟩:=hx;go_simp) (fun K hK=>?_);go_simp;refine hK _ ?_;clear hK K
  refine stp_to (.pointer (some ⟨p,0,none⟩)) rfl rfl (by kernel_rfl) (fun x hx=>by obtain⟨⟨e1,e2⟩,e3,e4⟩:=hx;go_simp) (fun K hK=>?_);go_simp;refine hK _ ?_;clear hK K
  refine stp_to (.pointer (some ⟨b,0,none⟩)) rfl rfl (by kernel_rfl) (fun x hx=>by obtain⟨⟨e1,e2⟩,e3,e4⟩:=hx;go_simp) (fun K hK=>?_);go_simp;refine hK _ ?_;clear hK K
  refine stp_to (.pointer (some ⟨p,0,none⟩)) rfl rfl (by kernel_rfl) (fun x hx=>by go_simp) (fun K hK=>?_);go_simp;refine hK _ ?_;clear hK K
  refine stp_to (.slice fa fb.length fc) rfl rfl (by kernel_rfl) (fun x hx=>by go_simp) (fun K hK=>?_);go_simp;refine hK _ ?_;clear hK K
  refine stp_dn rfl (fun K hK=>?_)
  go_wp2_with fail
  go_at_call 73
  refine (HO3.out _ ((Nw.refl w2).drew)).mono ?_
  rintro e w4 ⟨rfl,n4⟩
  have N4:=zH (((Nw.refl w2).drew).trans n4)
  clear n4
  go_wp2
  refine hK _ _ (HC3.out _ N4.out) ?_;clear hK K
  refine stp_to (.pointer (some ⟨g3,q3,none⟩)) rfl rfl (by kernel_rfl) (fun x hx=>by obtain⟨⟨e1,e2⟩,e3,e4⟩:=hx;go_simp) (fun K hK=>?_);go_simp;refine hK _ ?_;clear hK K
  refine stp_to (.pointer (some ⟨g3,q3,none⟩)) rfl rfl (by kernel_rfl) (fun x hx=>by obtain⟨⟨e1,e2⟩,e3,e4⟩:=hx;go_simp) (fun K hK=>?_);go_simp;refine hK _ ?_;clear hK K
  refine stp_to (.string ⟨nm.toArray⟩) rfl rfl (by kernel_rfl) (fun x hx=>by obtain⟨⟨e1,e2⟩,e3,e4⟩:=hx;go_simp) (fun K hK=>?_);go_simp;refine hK _ ?_;clear hK K
  have H4:=zH (H3.out.nw N4.out)
  obtain⟨rr,hrr⟩:=zN ((d).append nm fb)
  have HRR:=zH hrr
  clear hrr
  refine stp_dn rfl (fun K hK=>?_)
  go_wp2_with fail
  go_at_call 38
  refine (H4.out.disk.append nm fb _ (VF3.out.nw N4.out) (fun _ j hj=>.inl (.inl (HZF.out j hj))) HNL.out (by have:=HLN.out;omega) (by rw[HRR.out])).mono ?_
  rintro e w5 ⟨rfl,q1,q2⟩
  have H5:=zH (H4.out.disk' q1 q2)
  have K5:Hid (Kept Z w w5):=zH ((K3.out.trans N4.out.kept).trans (q2.weak fun k hk=>.inl hk))
  have hc5:(w5.cell? ⟨p,0,none⟩=some (.pointer (some ⟨b,0,none⟩))∧w5.cell? ⟨g3,q3,none⟩=some (.string ⟨nm.toArray⟩))∧p<w5.heap.size∧g3<w5.heap.size:=by
   obtain⟨⟨e1,e2⟩,e3,e4⟩:=HC3.out _ N4.out
   exact⟨⟨q2.cell e1 (.inr (.inl rfl)),q2.cell e2 (.inr (.inr rfl))⟩,Nat.lt_of_lt_of_le e3 q2.1,Nat.lt_of_lt_of_le e4 q2.1⟩
  clear q1 q2
  go_wp2
  refine hK _ _ hc5 ?_;clear hK K hc5
  refine wpSteps_nil ?_
  refine stp_do rfl (by decide) (fun K hK=>?_)
  go_wp2
  (try (refine hK _ _ ?_;clear hK K))
  refine wpNums_nil ?_
  have EP:Hid (L.add d es=(L).put (d) es):=zH EQ.out
  have E1:Hid (rr.2≠0→L.add d es=⟨rr.1,{ (L) with over:=true },rr.2⟩):=zH (fun hx=>by rw[EP.out];unfold Lg.put;rw[HNM.out,EF.out,HRR.out,if_pos hx])
  have E2:Hid (rr.2=0→L.add d es=⟨rr.1,{ (L) with n:=(L).n+ne,bytes:=(L).bytes+fb.length },0⟩):=zH (fun hx=>by rw[EP.out];unfold Lg.put;rw[HNM.out,EF.out,HRR.out,if_neg (by simp[hx]),HNE.out])
  by_cases hx:rr.2=0
  ·have E:=zH (E2.out hx)
   obtain⟨-,-,-,c3,-,c5,-,cf⟩:=H5.out.mem.cells
   have f3:=cf 3
   have f5:=cf 5
   have hp5:=lt_of_block H5.out.mem.blk
   have hxb:(rr.2 !=0)=false:=by simpa using hx
   obtain⟨hn2,hb2⟩:=HB3.out
   have hln:=HLN.out
   have hw2:IntKind.i64.wrap (((L).n:Int)+(ne:Int))=((L).n:Int)+(ne:Int):=IntWalk.i64_in _ (by omega)
   have hw5:IntKind.i64.wrap (((L).bytes:Int)+(fb.length:Int))=((L).bytes:Int)+(fb.length:Int):=IntWalk.i64_in _ (by omega)
   clear cf hx hln hn2 hb2
   go_wp2
   go_ret
   rw[E.out]
   have hb1:=heap_setCell_at (heap_setCell_at H5.out.mem.blk 3 (.int .i64 (((L).n:Int)+(ne:Int)))) 5 (.int .i64 (((L).bytes:Int)+(fb.length:Int)))
   have hon:Only (fun k=>k=p) w5 ((w5.setCell ⟨p,3,none⟩ (.int .i64 (((L).n:Int)+(ne:Int)))).setCell ⟨p,5,none⟩ (.int .i64 (((L).bytes:Int)+(fb.length:Int)))):=by
    refine Only.setCell (S:=fun k=>k=p) (p:=⟨p,5,none⟩) ?_ (fun _=>rfl) _
    exact Only.setCell (S:=fun k=>k=p) (p:=⟨p,3,none⟩) (Only.refl w5) (fun _=>rfl) _
   have:=H5.out.put { (L) with n:=(L).n+ne,bytes:=(L).bytes+fb.length } hon (by rw[hb1];simp) rfl
   exact DidL.weak (Z:=Z) ⟨rfl,⟨g3,o3,cap3,this.1⟩,K5.out.trans this.2⟩ HZX.out
  ·have E:=zH (E1.out hx)
   have hxb:(rr.2 !=0)=true:=by simpa using hx
   have HLE:=zH (lends_ok H5.out rr.2)
   have HX:=zH hx
   clear hx
   go_wp2_with fail
   refine HLE.out.mono ?_
   rintro e w6 ⟨rfl,q1,q2⟩
   have ZZ:=zH (And.intro q1 q2)
   clear q1 q2
   go_wp2
   go_ret
   rw[E.out]
   refine DidL.weak (Z:=Z) ⟨rfl,?_,K5.out.trans ZZ.out.2⟩ HZX.out
   have:=ZZ.out.1
   rw[decide_eq_true HX.out]at this
   exact this
 have hd1:decide (fi<(L.n:Int))=true:=by simpa using hr1
 by_cases hr2:L.size≤(L.bytes:Int)
 case neg =>
  have hd2:decide (L.size≤(L.bytes:Int))=false:=by simpa using hr2
  have EQ:Hid (L.add d es=L.put d es):=zH (by
   have:L.roomed d=⟨d,L,0⟩:=by unfold Lg.roomed;rw[HFI.out,if_neg (fun h=>hr2 h.2)]
   rw[EA.out,this];simp)
  refine wp_region_steps 20 [.rd 0,.rd 1,.rd 2,.rd 3,.rd 4,.dn 5,.rd 6,.rd 7,.rd 8,.rd 9,.rd 10,.rd 11,.rd 12,.rd 13,.rd 14,.rd 15,.rd 16,.rd 17,.rd 18,.rd 19] [20] (fun x=>(x.cell? ⟨p,1,none⟩=some (.int .i64 L.size)∧x.cell? ⟨p,3,none⟩=some (.int .i64 L.n)∧x.cell? ⟨p,5,none⟩=some (.int .i64 L.bytes)∧x.cell? ⟨g,q+1,none⟩=some (.int .i64 fi))∧p<x.heap.size∧g<x.heap.size) (by kernel_rfl) (by kernel_rfl) (fun _ _ _ _ _ h=>h) (HC.out _ ((Nw.refl w1).drew)) ?_
  refine stp_to (.pointer (some ⟨p,0,none⟩)) rfl rfl (by kernel_rfl) (fun x hx=>by go_simp) (fun K hK=>?_);go_simp;refine hK _ ?_;clear hK K
  refine stp_to (.pointer (some ⟨p,0,none⟩)) rfl rfl (by kernel_rfl) (fun x hx=>by obtain⟨⟨e1,e2,e3,e4⟩,e5,e6⟩:=hx;go_simp) (fun K hK=>?_);go_simp;refine hK _ ?_;clear hK K
  refine stp_to (.pointer (some ⟨p,3,none⟩)) rfl rfl (by kernel_rfl) (fun x hx=>by obtain⟨⟨e1,e2,e3,e4⟩,e5,e6⟩:=hx;go_simp) (fun K hK=>?_);go_simp;refine hK _ ?_;clear hK K
  refine stp_to (.int .i64 L.n) rfl rfl (by kernel_rfl) (fun x hx=>by obtain⟨⟨e1,e2,e3,e4⟩,e5,e6⟩:=hx;go_simp) (fun K hK=>?_);go_simp;refine hK _ ?_;clear hK K
  refine stp_to (.pointer (some ⟨p,0,none⟩)) rfl rfl (by kernel_rfl) (fun x hx=>by go_simp) (fun K hK=>?_);go_simp;refine hK _ ?_;clear hK K
  refine stp_dn rfl (fun K hK=>?_)
  go_wp2_with fail
  go_at_call 73
  refine (HO.out _ ((Nw.refl w1).drew)).mono ?_
  rintro e w2 ⟨rfl,n2⟩
  have N2:=zH (((Nw.refl w1).drew).trans n2)
  clear n2
  go_wp2
  refine hK _ _ (HC.out _ N2.out) ?_;clear hK K
  refine stp_to (.pointer (some ⟨g,q,none⟩)) rfl rfl (by kernel_rfl) (fun x hx=>by obtain⟨⟨e1,e2,e3,e4⟩,e5,e6⟩:=hx;go_simp) (fun K hK=>?_);go_simp;refine hK _ ?_;clear hK K
  refine stp_to (.pointer (some ⟨g,q+1,none⟩)) rfl rfl (by kernel_rfl) (fun x hx=>by obtain⟨⟨e1,e2,e3,e4⟩,e5,e6⟩:=hx;go_simp) (fun K hK=>?_);go_simp;refine hK _ ?_;clear hK K
  refine stp_to (.int .i64 fi) rfl rfl (by kernel_rfl) (fun x hx=>by obtain⟨⟨e1,e2,e3,e4⟩,e5,e6⟩:=hx;go_simp) (fun K hK=>?_);go_simp;refine hK _ ?_;clear hK K
  refine stp_to (.bool true) rfl rfl (by kernel_rfl) (fun x hx=>by go_simp) (fun K hK=>?_);go_simp;refine hK _ ?_;clear hK K
  refine stp_to (.bool true) rfl rfl (by kernel_rfl) (fun x hx=>by go_simp) (fun K hK=>?_);go_simp
  generalize hA:(⟨_,_⟩:Act)=A0
  have hy:A0.tmps[33]? = some (.bool true):=by rw[←hA];kernel_rfl
  have HA0:=zH hA.symm
  clear hA
  refine hK _ ?_;clear hK K
  refine stp_in (.pointer (some ⟨p,0,none⟩)) rfl rfl rfl rfl rfl hy (fun x hx=>by rw[HA0.out];go_simp) ?_
  replace hy:(A0.put (some 34) (.pointer (some ⟨p,0,none⟩))).tmps[33]? = some (.bool true):=(put_at (by decide)).trans hy
  generalize hA:A0.put (some 34) (.pointer (some ⟨p,0,none⟩))=A1 at hy ⊢
  have HA1:=zH hA.symm
  clear hA
  refine stp_in (.pointer (some ⟨p,0,none⟩)) rfl rfl rfl rfl rfl hy (fun x hx=>by rw[HA1.out,HA0.out];obtain⟨⟨e1,e2,e3,e4⟩,e5,e6⟩:=hx;go_simp) ?_
  replace hy:(A1.put (some 35) (.pointer (some ⟨p,0,none⟩))).tmps[33]? = some (.bool true):=(put_at (by decide)).trans hy
  generalize hA:A1.put (some 35) (.pointer (some ⟨p,0,none⟩))=A2 at hy ⊢
  have HA2:=zH hA.symm
  clear hA
  refine stp_in (.pointer (some ⟨p,5,none⟩)) rfl rfl rfl rfl rfl hy (fun x hx=>by rw[HA2.out,HA1.out,HA0.out];obtain⟨⟨e1,e2,e3,e4⟩,e5,e6⟩:=hx;go_simp) ?_
  replace hy:(A2.put (some 36) (.pointer (some ⟨p,5,none⟩))).tmps[33]? = some (.bool true):=(put_at (by decide)).trans hy
  generalize hA:A2.put (some 36) (.pointer (some ⟨p,5,none⟩))=A3 at hy ⊢
  have HA3:=zH hA.symm
  clear hA
  refine stp_in (.int .i64 L.bytes) rfl rfl rfl rfl rfl hy (fun x hx=>by rw[HA3.out,HA2.out,HA1.out,HA0.out];obtain⟨⟨e1,e2,e3,e4⟩,e5,e6⟩:=hx;go_simp) ?_
  replace hy:(A3.put (some 37) (.int .i64 L.bytes)).tmps[33]? = some (.bool true):=(put_at (by decide)).trans hy
  generalize hA:A3.put (some 37) (.int .i64 L.bytes)=A4 at hy ⊢
  have HA4:=zH hA.symm
  clear hA
  refine stp_in (.pointer (some ⟨p,0,none⟩)) rfl rfl rfl rfl rfl hy (fun x hx=>by rw[HA4.out,HA3.out,HA2.out,HA1.out,HA0.out];go_simp) ?_
  replace hy:(A4.put (some 38) (.pointer (some ⟨p,0,none⟩))).tmps[33]? = some (.bool true):=(put_at (by decide)).trans hy
  generalize hA:A4.put (some 38) (.pointer (some ⟨p,0,none⟩))=A5 at hy ⊢
  have HA5:=zH hA.symm
  clear hA
  refine stp_in (.pointer (some ⟨p,0,none⟩)) rfl rfl rfl rfl rfl hy (fun x hx=>by rw[HA5.out,HA4.out,HA3.out,HA2.out,HA1.out,HA0.out];obtain⟨⟨e1,e2,e3,e4⟩,e5,e6⟩:=hx;go_simp) ?_
  replace hy:(A5.put (some 39) (.pointer (some ⟨p,0,none⟩))).tmps[33]? = some (.bool true):=(put_at (by decide)).trans hy
  generalize hA:A5.put (some 39) (.pointer (some ⟨p,0,none⟩))=A6 at hy ⊢
  have HA6:=zH hA.symm
  clear hA
  refine stp_in (.pointer (some ⟨p,1,none⟩)) rfl rfl rfl rfl rfl hy (fun x hx=>by rw[HA6.out,HA5.out,HA4.out,HA3.out,HA2.out,HA1.out,HA0.out];obtain⟨⟨e1,e2,e3,e4⟩,e5,e6⟩:=hx;go_simp) ?_
  replace hy:(A6.put (some 40) (.pointer (some ⟨p,1,none⟩))).tmps[33]? = some (.bool true):=(put_at (by decide)).trans hy
  generalize hA:A6.put (some 40) (.pointer (some ⟨p,1,none⟩))=A7 at hy ⊢
  have HA7:=zH hA.symm
  clear hA
  refine stp_in (.int .i64 L.size) rfl rfl rfl rfl rfl hy (fun x hx=>by rw[HA7.out,HA6.out,HA5.out,HA4.out,HA3.out,HA2.out,HA1.out,HA0.out];obtain⟨⟨e1,e2,e3,e4⟩,e5,e6⟩:=hx;go_simp) ?_
  replace hy:(A7.put (some 41) (.int .i64 L.size)).tmps[33]? = some (.bool true):=(put_at (by decide)).trans hy
  generalize hA:A7.put (some 41) (.int .i64 L.size)=A8 at hy ⊢
  have HA8:=zH hA.symm
  clear hA
  refine stp_in_end (.bool false) rfl rfl rfl rfl rfl hy (fun x hx=>by rw[HA8.out,HA7.out,HA6.out,HA5.out,HA4.out,HA3.out,HA2.out,HA1.out,HA0.out];go_simp) (fun K hK=>?_)
  clear hy
  rw[HA8.out,HA7.out,HA6.out,HA5.out,HA4.out,HA3.out,HA2.out,HA1.out,HA0.out]
  clear HA0 HA1 HA2 HA3 HA4 HA5 HA6 HA7 HA8 A1 A2 A3 A4 A5 A6 A7 A8 A0
  go_simp
  refine hK _ _ ?_;clear hK K
  refine stp_do rfl (by decide) (fun K hK=>?_)
  go_wp2
  (try (refine hK _ _ ?_;clear hK K))
  refine wpNums_nil ?_
  have L3:Hid (HasL Z w0 w2 p b d L):=zH ⟨g,o,cap,H1.out.nw N2.out⟩
  have K3:Hid (Kept Z w w2):=zH (VF.out.2.1.trans N2.out).kept
  have VF3:Hid (Bs w2 (.slice fa fb.length fc) fb):=zH ((VF.out.1.nw N2.out).rd)
  have HB3:Hid (PutOk L):=HB
  go_upto_region 11 with fail
  obtain⟨g3,o3,cap3,h3⟩:=L3.out
  have hp3:=lt_of_block h3.mem.blk
  obtain⟨-,-,-,-,hg3,-⟩:=h3.mem.last
  have hna:=nameAt h3.mem
  have hop:=fun W (hW:Nw w2 W)=>lopen_ok (h3.nw hW).mem
  obtain⟨q3,hq3⟩:=zN (o3+((L).l.length-1)*4)
  rw[hq3]at hop hna
  obtain⟨nm,hnm⟩:=zN ((lastP (L).l).name)
  rw[hnm]at hna
  have HO3:=zH hop
  have hnl:nm.length≤9223372036854775807:=by
   rw[←hnm]
   have hm:lastP (L).l∈(L).l.dropLast++[lastP (L).l]:=by simp
   rw[←split_last h3.mem.some_]at hm
   exact (h3.mem.pcs.ok _ hm).name
  have HNL:=zH hnl
  have HNM:=zH hnm
  have hc3:∀W,Nw w2 W→(W.cell? ⟨p,0,none⟩=some (.pointer (some ⟨b,0,none⟩))∧W.cell? ⟨g3,q3,none⟩=some (.string ⟨nm.toArray⟩))∧p<W.heap.size∧g3<W.heap.size:=fun W hW=>⟨⟨hW.cell hna.1,hW.cell hna.2.1⟩,Nat.lt_of_lt_of_le hp3 hW.size,Nat.lt_of_lt_of_le hg3 hW.size⟩
  have HC3:=zH hc3
  have H3:=zH h3
  clear hop hna hc3 h3 hnm hnl hq3
  refine wp_region_steps 11 [.rd 0,.rd 1,.rd 2,.rd 3,.rd 4,.rd 9,.dn 5,.rd 6,.rd 7,.rd 8,.dn 10] [11] (fun x=>(x.cell? ⟨p,0,none⟩=some (.pointer (some ⟨b,0,none⟩))∧x.cell? ⟨g3,q3,none⟩=some (.string ⟨nm.toArray⟩))∧p<x.heap.size∧g3<x.heap.size) (by kernel_rfl) (by kernel_rfl) (fun _ _ _ _ _ h=>h) (HC3.out _ ((Nw.refl w2).drew)) ?_
  refine stp_to (.pointer (some ⟨p,0,none⟩)) rfl rfl (by kernel_rfl) (fun x hx=>by go_simp) (fun K hK=>?_);go_simp;refine hK _ ?_;clear hK K
  refine stp_to (.pointer (some ⟨p,0,none⟩)) rfl rfl (by kernel_rfl) (fun x hx=>by obtain⟨⟨e1,e2⟩,e3,e4⟩:=hx;go_simp) (fun K hK=>?_);go_simp;refine hK _ ?_;clear hK K
  refine stp_to (.pointer (some ⟨p,0,none⟩)) rfl rfl (by kernel_rfl) (fun x hx=>by obtain⟨⟨e1,e2⟩,e3,e4⟩:=hx;go_simp) (fun K hK=>?_);go_simp;refine hK _ ?_;clear hK K
  refine stp_to (.pointer (some ⟨b,0,none⟩)) rfl rfl (by kernel_rfl) (fun x hx=>by obtain⟨⟨e1,e2⟩,e3,e4⟩:=hx;go_simp) (fun K hK=>?_);go_simp;refine hK _ ?_;clear hK K
  refine stp_to (.pointer (some ⟨p,0,none⟩)) rfl rfl (by kernel_rfl) (fun x hx=>by go_simp) (fun K hK=>?_);go_simp;refine hK _ ?_;clear hK K
  refine stp_to (.slice fa fb.length fc) rfl rfl (by kernel_rfl) (fun x hx=>by go_simp) (fun K hK=>?_);go_simp;refine hK _ ?_;clear hK K
  refine stp_dn rfl (fun K hK=>?_)
  go_wp2_with fail
  go_at_call 73
  refine (HO3.out _ ((Nw.refl w2).drew)).mono ?_
  rintro e w4 ⟨rfl,n4⟩
  have N4:=zH (((Nw.refl w2).drew).trans n4)
  clear n4
  go_wp2
  refine hK _ _ (HC3.out _ N4.out) ?_;clear hK K
  refine stp_to (.pointer (some ⟨g3,q3,none⟩)) rfl rfl (by kernel_rfl) (fun x hx=>by obtain⟨⟨e1,e2⟩,e3,e4⟩:=hx;go_simp) (fun K hK=>?_);go_simp;refine hK _ ?_;clear hK K
  refine stp_to (.pointer (some ⟨g3,q3,none⟩)) rfl rfl (by kernel_rfl) (fun x hx=>by obtain⟨⟨e1,e2⟩,e3,e4⟩:=hx;go_simp) (fun K hK=>?_);go_simp;refine hK _ ?_;clear hK K
  refine stp_to (.string ⟨nm.toArray⟩) rfl rfl (by kernel_rfl) (fun x hx=>by obtain⟨⟨e1,e2⟩,e3,e4⟩:=hx;go_simp) (fun K hK=>?_);go_simp;refine hK _ ?_;clear hK K
  have H4:=zH (H3.out.nw N4.out)
  obtain⟨rr,hrr⟩:=zN ((d).append nm fb)
  have HRR:=zH hrr
  clear hrr
  refine stp_dn rfl (fun K hK=>?_)
  go_wp2_with fail
  go_at_call 38
  refine (H4.out.disk.append nm fb _ (VF3.out.nw N4.out) (fun _ j hj=>.inl (.inl (HZF.out j hj))) HNL.out (by have:=HLN.out;omega) (by rw[HRR.out])).mono ?_
  rintro e w5 ⟨rfl,q1,q2⟩
  have H5:=zH (H4.out.disk' q1 q2)
  have K5:Hid (Kept Z w w5):=zH ((K3.out.trans N4.out.kept).trans (q2.weak fun k hk=>.inl hk))
  have hc5:(w5.cell? ⟨p,0,none⟩=some (.pointer (some ⟨b,0,none⟩))∧w5.cell? ⟨g3,q3,none⟩=some (.string ⟨nm.toArray⟩))∧p<w5.heap.size∧g3<w5.heap.size:=by
   obtain⟨⟨e1,e2⟩,e3,e4⟩:=HC3.out _ N4.out
   exact⟨⟨q2.cell e1 (.inr (.inl rfl)),q2.cell e2 (.inr (.inr rfl))⟩,Nat.lt_of_lt_of_le e3 q2.1,Nat.lt_of_lt_of_le e4 q2.1⟩
  clear q1 q2
  go_wp2
  refine hK _ _ hc5 ?_;clear hK K hc5
  refine wpSteps_nil ?_
  refine stp_do rfl (by decide) (fun K hK=>?_)
  go_wp2
  (try (refine hK _ _ ?_;clear hK K))
  refine wpNums_nil ?_
  have EP:Hid (L.add d es=(L).put (d) es):=zH EQ.out
  have E1:Hid (rr.2≠0→L.add d es=⟨rr.1,{ (L) with over:=true },rr.2⟩):=zH (fun hx=>by rw[EP.out];unfold Lg.put;rw[HNM.out,EF.out,HRR.out,if_pos hx])
  have E2:Hid (rr.2=0→L.add d es=⟨rr.1,{ (L) with n:=(L).n+ne,bytes:=(L).bytes+fb.length },0⟩):=zH (fun hx=>by rw[EP.out];unfold Lg.put;rw[HNM.out,EF.out,HRR.out,if_neg (by simp[hx]),HNE.out])
  by_cases hx:rr.2=0
  ·have E:=zH (E2.out hx)
   obtain⟨-,-,-,c3,-,c5,-,cf⟩:=H5.out.mem.cells
   have f3:=cf 3
   have f5:=cf 5
   have hp5:=lt_of_block H5.out.mem.blk
   have hxb:(rr.2 !=0)=false:=by simpa using hx
   obtain⟨hn2,hb2⟩:=HB3.out
   have hln:=HLN.out
   have hw2:IntKind.i64.wrap (((L).n:Int)+(ne:Int))=((L).n:Int)+(ne:Int):=IntWalk.i64_in _ (by omega)
   have hw5:IntKind.i64.wrap (((L).bytes:Int)+(fb.length:Int))=((L).bytes:Int)+(fb.length:Int):=IntWalk.i64_in _ (by omega)
   clear cf hx hln hn2 hb2
   go_wp2
   go_ret
   rw[E.out]
   have hb1:=heap_setCell_at (heap_setCell_at H5.out.mem.blk 3 (.int .i64 (((L).n:Int)+(ne:Int)))) 5 (.int .i64 (((L).bytes:Int)+(fb.length:Int)))
   have hon:Only (fun k=>k=p) w5 ((w5.setCell ⟨p,3,none⟩ (.int .i64 (((L).n:Int)+(ne:Int)))).setCell ⟨p,5,none⟩ (.int .i64 (((L).bytes:Int)+(fb.length:Int)))):=by
    refine Only.setCell (S:=fun k=>k=p) (p:=⟨p,5,none⟩) ?_ (fun _=>rfl) _
    exact Only.setCell (S:=fun k=>k=p) (p:=⟨p,3,none⟩) (Only.refl w5) (fun _=>rfl) _
   have:=H5.out.put { (L) with n:=(L).n+ne,bytes:=(L).bytes+fb.length } hon (by rw[hb1];simp) rfl
   exact DidL.weak (Z:=Z) ⟨rfl,⟨g3,o3,cap3,this.1⟩,K5.out.trans this.2⟩ HZX.out
  ·have E:=zH (E1.out hx)
   have hxb:(rr.2 !=0)=true:=by simpa using hx
   have HLE:=zH (lends_ok H5.out rr.2)
   have HX:=zH hx
   clear hx
   go_wp2_with fail
   refine HLE.out.mono ?_
   rintro e w6 ⟨rfl,q1,q2⟩
   have ZZ:=zH (And.intro q1 q2)
   clear q1 q2
   go_wp2
   go_ret
   rw[E.out]
   refine DidL.weak (Z:=Z) ⟨rfl,?_,K5.out.trans ZZ.out.2⟩ HZX.out
   have:=ZZ.out.1
   rw[decide_eq_true HX.out]at this
   exact this
 have hd2:decide (L.size≤(L.bytes:Int))=true:=by simpa using hr2
 obtain⟨r,hr⟩:=zN (L.another d)
 have ER:Hid (L.add d es=if r.e≠0 then ⟨r.d,{ r.L with over:=true },r.e⟩ else r.L.put r.d es):=zH (by
  have:L.roomed d=r:=by unfold Lg.roomed;rw[HFI.out,if_pos ⟨hr1,hr2⟩,hr]
  rw[EA.out,this])
 have HB3:Hid (PutOk r.L):=zH (by
  have h1:=another_small L d
  have h2:=HB.out
  have h3:=headB_len (n:=L.n) (by have:=h2.1;omega)
  rw[hr]at h1
  unfold PutOk at *
  rw[h1.1]
  refine⟨h2.1,?_⟩
  rcases h1.2 with e|e <;> omega)
 have HRR0:=zH hr
 clear hr
 refine wp_region_steps 20 [.rd 0,.rd 1,.rd 2,.rd 3,.rd 4,.dn 5,.rd 6,.rd 7,.rd 8,.rd 9,.rd 10,.rd 11,.rd 12,.rd 13,.rd 14,.rd 15,.rd 16,.rd 17,.rd 18,.rd 19] [20] (fun x=>(x.cell? ⟨p,1,none⟩=some (.int .i64 L.size)∧x.cell? ⟨p,3,none⟩=some (.int .i64 L.n)∧x.cell? ⟨p,5,none⟩=some (.int .i64 L.bytes)∧x.cell? ⟨g,q+1,none⟩=some (.int .i64 fi))∧p<x.heap.size∧g<x.heap.size) (by kernel_rfl) (by kernel_rfl) (fun _ _ _ _ _ h=>h) (HC.out _ ((Nw.refl w1).drew)) ?_
 refine stp_to (.pointer (some ⟨p,0,none⟩)) rfl rfl (by kernel_rfl) (fun x hx=>by go_simp) (fun K hK=>?_);go_simp;refine hK _ ?_;clear hK K
 refine stp_to (.pointer (some ⟨p,0,none⟩)) rfl rfl (by kernel_rfl) (fun x hx=>by obtain⟨⟨e1,e2,e3,e4⟩,e5,e6⟩:=hx;go_simp) (fun K hK=>?_);go_simp;refine hK _ ?_;clear hK K
 refine stp_to (.pointer (some ⟨p,3,none⟩)) rfl rfl (by kernel_rfl) (fun x hx=>by obtain⟨⟨e1,e2,e3,e4⟩,e5,e6⟩:=hx;go_simp) (fun K hK=>?_);go_simp;refine hK _ ?_;clear hK K
 refine stp_to (.int .i64 L.n) rfl rfl (by kernel_rfl) (fun x hx=>by obtain⟨⟨e1,e2,e3,e4⟩,e5,e6⟩:=hx;go_simp) (fun K hK=>?_);go_simp;refine hK _ ?_;clear hK K
 refine stp_to (.pointer (some ⟨p,0,none⟩)) rfl rfl (by kernel_rfl) (fun x hx=>by go_simp) (fun K hK=>?_);go_simp;refine hK _ ?_;clear hK K
 refine stp_dn rfl (fun K hK=>?_)
 go_wp2_with fail
 go_at_call 73
 refine (HO.out _ ((Nw.refl w1).drew)).mono ?_
 rintro e w2 ⟨rfl,n2⟩
 have N2:=zH (((Nw.refl w1).drew).trans n2)
 clear n2
 go_wp2
 refine hK _ _ (HC.out _ N2.out) ?_;clear hK K
 refine stp_to (.pointer (some ⟨g,q,none⟩)) rfl rfl (by kernel_rfl) (fun x hx=>by obtain⟨⟨e1,e2,e3,e4⟩,e5,e6⟩:=hx;go_simp) (fun K hK=>?_);go_simp;refine hK _ ?_;clear hK K
 refine stp_to (.pointer (some ⟨g,q+1,none⟩)) rfl rfl (by kernel_rfl) (fun x hx=>by obtain⟨⟨e1,e2,e3,e4⟩,e5,e6⟩:=hx;go_simp) (fun K hK=>?_);go_simp;refine hK _ ?_;clear hK K
 refine stp_to (.int .i64 fi) rfl rfl (by kernel_rfl) (fun x hx=>by obtain⟨⟨e1,e2,e3,e4⟩,e5,e6⟩:=hx;go_simp) (fun K hK=>?_);go_simp;refine hK _ ?_;clear hK K
 refine stp_to (.bool true) rfl rfl (by kernel_rfl) (fun x hx=>by go_simp) (fun K hK=>?_);go_simp;refine hK _ ?_;clear hK K
 refine stp_to (.bool true) rfl rfl (by kernel_rfl) (fun x hx=>by go_simp) (fun K hK=>?_);go_simp
 generalize hA:(⟨_,_⟩:Act)=A0
 have hy:A0.tmps[33]? = some (.bool true):=by rw[←hA];kernel_rfl
 have HA0:=zH hA.symm
 clear hA
 refine hK _ ?_;clear hK K
 refine stp_in (.pointer (some ⟨p,0,none⟩)) rfl rfl rfl rfl rfl hy (fun x hx=>by rw[HA0.out];go_simp) ?_
 replace hy:(A0.put (some 34) (.pointer (some ⟨p,0,none⟩))).tmps[33]? = some (.bool true):=(put_at (by decide)).trans hy
 generalize hA:A0.put (some 34) (.pointer (some ⟨p,0,none⟩))=A1 at hy ⊢
 have HA1:=zH hA.symm
 clear hA
 refine stp_in (.pointer (some ⟨p,0,none⟩)) rfl rfl rfl rfl rfl hy (fun x hx=>by rw[HA1.out,HA0.out];obtain⟨⟨e1,e2,e3,e4⟩,e5,e6⟩:=hx;go_simp) ?_
 replace hy:(A1.put (some 35) (.pointer (some ⟨p,0,none⟩))).tmps[33]? = some (.bool true):=(put_at (by decide)).trans hy
 generalize hA:A1.put (some 35) (.pointer (some ⟨p,0,none⟩))=A2 at hy ⊢
 have HA2:=zH hA.symm
 clear hA
 refine stp_in (.pointer (some ⟨p,5,none⟩)) rfl rfl rfl rfl rfl hy (fun x hx=>by rw[HA2.out,HA1.out,HA0.out];obtain⟨⟨e1,e2,e3,e4⟩,e5,e6⟩:=hx;go_simp) ?_
 replace hy:(A2.put (some 36) (.pointer (some ⟨p,5,none⟩))).tmps[33]? = some (.bool true):=(put_at (by decide)).trans hy
 generalize hA:A2.put (some 36) (.pointer (some ⟨p,5,none⟩))=A3 at hy ⊢
 have HA3:=zH hA.symm
 clear hA
 refine stp_in (.int .i64 L.bytes) rfl rfl rfl rfl rfl hy (fun x hx=>by rw[HA3.out,HA2.out,HA1.out,HA0.out];obtain⟨⟨e1,e2,e3,e4⟩,e5,e6⟩:=hx;go_simp) ?_
 replace hy:(A3.put (some 37) (.int .i64 L.bytes)).tmps[33]? = some (.bool true):=(put_at (by decide)).trans hy
 generalize hA:A3.put (some 37) (.int .i64 L.bytes)=A4 at hy ⊢
 have HA4:=zH hA.symm
 clear hA
 refine stp_in (.pointer (some ⟨p,0,none⟩)) rfl rfl rfl rfl rfl hy (fun x hx=>by rw[HA4.out,HA3.out,HA2.out,HA1.out,HA0.out];go_simp) ?_
 replace hy:(A4.put (some 38) (.pointer (some ⟨p,0,none⟩))).tmps[33]? = some (.bool true):=(put_at (by decide)).trans hy
 generalize hA:A4.put (some 38) (.pointer (some ⟨p,0,none⟩))=A5 at hy ⊢
 have HA5:=zH hA.symm
 clear hA
 refine stp_in (.pointer (some ⟨p,0,none⟩)) rfl rfl rfl rfl rfl hy (fun x hx=>by rw[HA5.out,HA4.out,HA3.out,HA2.out,HA1.out,HA0.out];obtain⟨⟨e1,e2,e3,e4⟩,e5,e6⟩:=hx;go_simp) ?_
 replace hy:(A5.put (some 39) (.pointer (some ⟨p,0,none⟩))).tmps[33]? = some (.bool true):=(put_at (by decide)).trans hy
 generalize hA:A5.put (some 39) (.pointer (some ⟨p,0,none⟩))=A6 at hy ⊢
 have HA6:=zH hA.symm
 clear hA
 refine stp_in (.pointer (some ⟨p,1,none⟩)) rfl rfl rfl rfl rfl hy (fun x hx=>by rw[HA6.out,HA5.out,HA4.out,HA3.out,HA2.out,HA1.out,HA0.out];obtain⟨⟨e1,e2,e3,e4⟩,e5,e6⟩:=hx;go_simp) ?_
 replace hy:(A6.put (some 40) (.pointer (some ⟨p,1,none⟩))).tmps[33]? = some (.bool true):=(put_at (by decide)).trans hy
 generalize hA:A6.put (some 40) (.pointer (some ⟨p,1,none⟩))=A7 at hy ⊢
 have HA7:=zH hA.symm
 clear hA
 refine stp_in (.int .i64 L.size) rfl rfl rfl rfl rfl hy (fun x hx=>by rw[HA7.out,HA6.out,HA5.out,HA4.out,HA3.out,HA2.out,HA1.out,HA0.out];obtain⟨⟨e1,e2,e3,e4⟩,e5,e6⟩:=hx;go_simp) ?_
 replace hy:(A7.put (some 41) (.int .i64 L.size)).tmps[33]? = some (.bool true):=(put_at (by decide)).trans hy
 generalize hA:A7.put (some 41) (.int .i64 L.size)=A8 at hy ⊢
 have HA8:=zH hA.symm
 clear hA
 refine stp_in_end (.bool true) rfl rfl rfl rfl rfl hy (fun x hx=>by rw[HA8.out,HA7.out,HA6.out,HA5.out,HA4.out,HA3.out,HA2.out,HA1.out,HA0.out];go_simp) (fun K hK=>?_)
 clear hy
 rw[HA8.out,HA7.out,HA6.out,HA5.out,HA4.out,HA3.out,HA2.out,HA1.out,HA0.out]
 clear HA0 HA1 HA2 HA3 HA4 HA5 HA6 HA7 HA8 A1 A2 A3 A4 A5 A6 A7 A8 A0
 go_simp
 refine hK _ _ ?_;clear hK K
 refine stp_do rfl (by decide) (fun K hK=>?_)
 go_wp2
 (try (refine hK _ _ ?_;clear hK K))
 refine wpNums_nil ?_
 have L2:Hid (HasL Z w0 w2 p b d L):=zH ⟨g,o,cap,H1.out.nw N2.out⟩
 have HAN:=zH (another_ok L2.out HT.out HB.out.1 HF.out HLL.out)
 have hrr:=HRR0.out
 rw[hrr]at HAN
 clear hrr
 go_wp2_with fail
 refine HAN.out.mono ?_
 rintro e w3 ⟨rfl,q1,q2⟩
 have L3:=zH q1
 have K3:Hid (Kept Z w w3):=zH ((VF.out.2.1.trans N2.out).kept.trans q2)
 have VF3:Hid (Bs w3 (.slice fa fb.length fc) fb):=zH (((VF.out.1.nw N2.out).rd).kept q2 (fun _ j hj=>HZF.out j hj))
 clear q1 q2 HAN L2
 by_cases hre:r.e=0
 case neg =>
  have E:Hid (L.add d es=⟨r.d,{ r.L with over:=true },r.e⟩):=zH (by rw[ER.out,if_pos hre])
  have hxb:(r.e !=0)=true:=by simpa using hre
  obtain⟨g3,o3,cap3,h3⟩:=L3.out
  have HLE:=zH (lends_ok h3 r.e)
  have HX:=zH hre
  clear hre h3
  go_wp2_with fail
  refine HLE.out.mono ?_
  rintro e w6 ⟨rfl,q1,q2⟩
  have ZZ:=zH (And.intro q1 q2)
  clear q1 q2
  go_wp2
  go_ret
  rw[E.out]
  refine DidL.weak (Z:=Z) ⟨rfl,?_,K3.out.trans ZZ.out.2⟩ HZX.out
  have:=ZZ.out.1
  rw[decide_eq_true HX.out]at this
  exact this
 have hxb0:(r.e !=0)=false:=by simpa using hre
 have EQ:Hid (L.add d es=r.L.put r.d es):=zH (by rw[ER.out,if_neg (by simp[hre])])
 clear hre
 go_upto_region 11 with fail
 obtain⟨g3,o3,cap3,h3⟩:=L3.out
 have hp3:=lt_of_block h3.mem.blk
 obtain⟨-,-,-,-,hg3,-⟩:=h3.mem.last
 have hna:=nameAt h3.mem
 have hop:=fun W (hW:Nw w3 W)=>lopen_ok (h3.nw hW).mem
 obtain⟨q3,hq3⟩:=zN (o3+((r.L).l.length-1)*4)
 rw[hq3]at hop hna
 obtain⟨nm,hnm⟩:=zN ((lastP (r.L).l).name)
 rw[hnm]at hna
 have HO3:=zH hop
 have hnl:nm.length≤9223372036854775807:=by
  rw[←hnm]
  have hm:lastP (r.L).l∈(r.L).l.dropLast++[lastP (r.L).l]:=by simp
  rw[←split_last h3.mem.some_]at hm
  exact (h3.mem.pcs.ok _ hm).name
 have HNL:=zH hnl
 have HNM:=zH hnm
 have hc3:∀W,Nw w3 W→(W.cell? ⟨p,0,none⟩=some (.pointer (some ⟨b,0,none⟩))∧W.cell? ⟨g3,q3,none⟩=some (.string ⟨nm.toArray⟩))∧p<W.heap.size∧g3<W.heap.size:=fun W hW=>⟨⟨hW.cell hna.1,hW.cell hna.2.1⟩,Nat.lt_of_lt_of_le hp3 hW.size,Nat.lt_of_lt_of_le hg3 hW.size⟩
 have HC3:=zH hc3
 have H3:=zH h3
 clear hop hna hc3 h3 hnm hnl hq3
 refine wp_region_steps 11 [.rd 0,.rd 1,.rd 2,.rd 3,.rd 4,.rd 9,.dn 5,.rd 6,.rd 7,.rd 8,.dn 10] [11] (fun x=>(x.cell? ⟨p,0,none⟩=some (.pointer (some ⟨b,0,none⟩))∧x.cell? ⟨g3,q3,none⟩=some (.string ⟨nm.toArray⟩))∧p<x.heap.size∧g3<x.heap.size) (by kernel_rfl) (by kernel_rfl) (fun _ _ _ _ _ h=>h) (HC3.out _ ((Nw.refl w3).drew)) ?_
 refine stp_to (.pointer (some ⟨p,0,none⟩)) rfl rfl (by kernel_rfl) (fun x hx=>by go_simp) (fun K hK=>?_);go_simp;refine hK _ ?_;clear hK K
 refine stp_to (.pointer (some ⟨p,0,none⟩)) rfl rfl (by kernel_rfl) (fun x hx=>by obtain⟨⟨e1,e2⟩,e3,e4⟩:=hx;go_simp) (fun K hK=>?_);go_simp;refine hK _ ?_;clear hK K
 refine stp_to (.pointer (some ⟨p,0,none⟩)) rfl rfl (by kernel_rfl) (fun x hx=>by obtain⟨⟨e1,e2⟩,e3,e4⟩:=hx;go_simp) (fun K hK=>?_);go_simp;refine hK _ ?_;clear hK K
 refine stp_to (.pointer (some ⟨b,0,none⟩)) rfl rfl (by kernel_rfl) (fun x hx=>by obtain⟨⟨e1,e2⟩,e3,e4⟩:=hx;go_simp) (fun K hK=>?_);go_simp;refine hK _ ?_;clear hK K
 refine stp_to (.pointer (some ⟨p,0,none⟩)) rfl rfl (by kernel_rfl) (fun x hx=>by go_simp) (fun K hK=>?_);go_simp;refine hK _ ?_;clear hK K
 refine stp_to (.slice fa fb.length fc) rfl rfl (by kernel_rfl) (fun x hx=>by go_simp) (fun K hK=>?_);go_simp;refine hK _ ?_;clear hK K
 refine stp_dn rfl (fun K hK=>?_)
 go_wp2_with fail
 go_at_call 73
 refine (HO3.out _ ((Nw.refl w3).drew)).mono ?_
 rintro e w4 ⟨rfl,n4⟩
 have N4:=zH (((Nw.refl w3).drew).trans n4)
 clear n4
 go_wp2
 refine hK _ _ (HC3.out _ N4.out) ?_;clear hK K
 refine stp_to (.pointer (some ⟨g3,q3,none⟩)) rfl rfl (by kernel_rfl) (fun x hx=>by obtain⟨⟨e1,e2⟩,e3,e4⟩:=hx;go_simp) (fun K hK=>?_);go_simp;refine hK _ ?_;clear hK K
 refine stp_to (.pointer (some ⟨g3,q3,none⟩)) rfl rfl (by kernel_rfl) (fun x hx=>by obtain⟨⟨e1,e2⟩,e3,e4⟩:=hx;go_simp) (fun K hK=>?_);go_simp;refine hK _ ?_;clear hK K
 refine stp_to (.string ⟨nm.toArray⟩) rfl rfl (by kernel_rfl) (fun x hx=>by obtain⟨⟨e1,e2⟩,e3,e4⟩:=hx;go_simp) (fun K hK=>?_);go_simp;refine hK _ ?_;clear hK K
 have H4:=zH (H3.out.nw N4.out)
 obtain⟨rr,hrr⟩:=zN ((r.d).append nm fb)
 have HRR:=zH hrr
 clear hrr
 refine stp_dn rfl (fun K hK=>?_)
 go_wp2_with fail
 go_at_call 38
 refine (H4.out.disk.append nm fb _ (VF3.out.nw N4.out) (fun _ j hj=>.inl (.inl (HZF.out j hj))) HNL.out (by have:=HLN.out;omega) (by rw[HRR.out])).mono ?_
 rintro e w5 ⟨rfl,q1,q2⟩
 have H5:=zH (H4.out.disk' q1 q2)
 have K5:Hid (Kept Z w w5):=zH ((K3.out.trans N4.out.kept).trans (q2.weak fun k hk=>.inl hk))
 have hc5:(w5.cell? ⟨p,0,none⟩=some (.pointer (some ⟨b,0,none⟩))∧w5.cell? ⟨g3,q3,none⟩=some (.string ⟨nm.toArray⟩))∧p<w5.heap.size∧g3<w5.heap.size:=by
  obtain⟨⟨e1,e2⟩,e3,e4⟩:=HC3.out _ N4.out
  exact⟨⟨q2.cell e1 (.inr (.inl rfl)),q2.cell e2 (.inr (.inr rfl))⟩,Nat.lt_of_lt_of_le e3 q2.1,Nat.lt_of_lt_of_le e4 q2.1⟩
 clear q1 q2
 go_wp2
 refine hK _ _ hc5 ?_;clear hK K hc5
 refine wpSteps_nil ?_
 refine stp_do rfl (by decide) (fun K hK=>?_)
 go_wp2
 (try (refine hK _ _ ?_;clear hK K))
 refine wpNums_nil ?_
 have EP:Hid (L.add d es=(r.L).put (r.d) es):=zH EQ.out
 have E1:Hid (rr.2≠0→L.add d es=⟨rr.1,{ (r.L) with over:=true },rr.2⟩):=zH (fun hx=>by rw[EP.out];unfold Lg.put;rw[HNM.out,EF.out,HRR.out,if_pos hx])
 have E2:Hid (rr.2=0→L.add d es=⟨rr.1,{ (r.L) with n:=(r.L).n+ne,bytes:=(r.L).bytes+fb.length },0⟩):=zH (fun hx=>by rw[EP.out];unfold Lg.put;rw[HNM.out,EF.out,HRR.out,if_neg (by simp[hx]),HNE.out])
 by_cases hx:rr.2=0
 ·have E:=zH (E2.out hx)
  obtain⟨-,-,-,c3,-,c5,-,cf⟩:=H5.out.mem.cells
  have f3:=cf 3
  have f5:=cf 5
  have hp5:=lt_of_block H5.out.mem.blk
  have hxb:(rr.2 !=0)=false:=by simpa using hx
  obtain⟨hn2,hb2⟩:=HB3.out
  have hln:=HLN.out
  have hw3:IntKind.i64.wrap (((r.L).n:Int)+(ne:Int))=((r.L).n:Int)+(ne:Int):=IntWalk.i64_in _ (by omega)
  have hw5:IntKind.i64.wrap (((r.L).bytes:Int)+(fb.length:Int))=((r.L).bytes:Int)+(fb.length:Int):=IntWalk.i64_in _ (by omega)
  clear cf hx hln hn2 hb2
  go_wp2
  go_ret
  rw[E.out]
  have hb1:=heap_setCell_at (heap_setCell_at H5.out.mem.blk 3 (.int .i64 (((r.L).n:Int)+(ne:Int)))) 5 (.int .i64 (((r.L).bytes:Int)+(fb.length:Int)))
  have hon:Only (fun k=>k=p) w5 ((w5.setCell ⟨p,3,none⟩ (.int .i64 (((r.L).n:Int)+(ne:Int)))).setCell ⟨p,5,none⟩ (.int .i64 (((r.L).bytes:Int)+(fb.length:Int)))):=by
   refine Only.setCell (S:=fun k=>k=p) (p:=⟨p,5,none⟩) ?_ (fun _=>rfl) _
   exact Only.setCell (S:=fun k=>k=p) (p:=⟨p,3,none⟩) (Only.refl w5) (fun _=>rfl) _
  have:=H5.out.put { (r.L) with n:=(r.L).n+ne,bytes:=(r.L).bytes+fb.length } hon (by rw[hb1];simp) rfl
  exact DidL.weak (Z:=Z) ⟨rfl,⟨g3,o3,cap3,this.1⟩,K5.out.trans this.2⟩ HZX.out
 ·have E:=zH (E1.out hx)
  have hxb:(rr.2 !=0)=true:=by simpa using hx
  have HLE:=zH (lends_ok H5.out rr.2)
  have HX:=zH hx
  clear hx
  go_wp2_with fail
  refine HLE.out.mono ?_
  rintro e w6 ⟨rfl,q1,q2⟩
  have ZZ:=zH (And.intro q1 q2)
  clear q1 q2
  go_wp2
  go_ret
  rw[E.out]
  refine DidL.weak (Z:=Z) ⟨rfl,?_,K5.out.trans ZZ.out.2⟩ HZX.out
  have:=ZZ.out.1
  rw[decide_eq_true HX.out]at this
  exact this
end
end Go.Proofs.YtkbenkldfehhlaaGreatDoor
