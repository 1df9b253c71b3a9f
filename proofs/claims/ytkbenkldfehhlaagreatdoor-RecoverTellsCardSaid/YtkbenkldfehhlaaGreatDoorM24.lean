/-
  Texts merged by a program of this claim's: Twin, Made, ResPlain, SizePlain, KeepPlain.
-/
import Derived.Test.YtkbenkldfehhlaaGreatDoorM23
import Derived.Test.YtkbenkldfehhlaaGreatDoorM10
import Derived.Deep.DeepCutAuto
import Derived.Test.YtkbenkldfehhlaaGreatDoorM6
import Derived.Test.YtkbenkldfehhlaaGreatDoorM19
namespace Go.Proofs.YtkbenkldfehhlaaGreatDoor
open Go Go.RowKit Go.Sort
set_option maxRecDepth 100000
set_option maxHeartbeats 800000
def Tw (Y:Nat→Prop) (w0 w:World) (b:Nat) (dp:Dsk) (v:Value) (dd:Dsk):Prop:=∃X,HasX (fun k=>X k∨Y k) w0 w b dp∧RD X w v dd∧∀k,X k→¬ Y k
section
variable {Y Z:Nat→Prop}{w0 w w':World}{b:Nat}{dp dp' dd dd' d:Dsk}{v:Value}
theorem Kept.at_ {X:Nat→Prop}(h:Kept X w w'){k:Nat}{u:Obj}(hk:w.heap[k]? = some u) (hx:X k):w'.heap[k]? = some u:=by
 rw[h.2 k hx (lt_of_block hk)]
 exact hk
theorem Tw.has (h:Tw Y w0 w b dp v dd):HasX Y w0 w b dp:=by
 obtain⟨X,h1,-,-⟩:=h
 exact h1.weak fun k hk=>.inr hk
theorem Tw.base (h:Tw Y w0 w b dp v dd):Nw w0 w:=h.has.base
theorem HasX.old {X:Nat→Prop}(h:HasX X w0 w b d):HasX (fun k=>X k∨k<w0.heap.size) w0 w b d:=by
 obtain⟨S,h1,h2,h3,h4⟩:=h
 refine⟨S,h1,h2,h3,fun k hk=>?_⟩
 rcases hk with hk|hk
 ·exact h4 k hk
 ·exact⟨Nat.lt_of_lt_of_le hk h2.size,fun hs=>by have:=h3 k hs;omega⟩
theorem HasX.reb {X:Nat→Prop}{w1:World}(h:HasX X w0 w b d) (hn:Nw w1 w0):HasX X w1 w b d:=by
 obtain⟨S,h1,h2,h3,h4⟩:=h
 exact⟨S,h1,hn.trans h2,fun k hk=>Nat.le_trans hn.size (h3 k hk),h4⟩
theorem Tw.rebase {w1:World}(h:Tw Y w0 w b dp v dd) (hn:Nw w1 w0):Tw Y w1 w b dp v dd:=by
 obtain⟨X,h1,h2,h3⟩:=h
 exact⟨X,h1.reb hn,h2,h3⟩
theorem Tw.doc (h:Tw Y w0 w b dp v dd):∃X,RD X w v dd:=by
 obtain⟨X,-,h2,-⟩:=h
 exact⟨X,h2⟩
theorem Tw.nw (h:Tw Y w0 w b dp v dd) (hw:Nw w w'):Tw Y w0 w' b dp v dd:=by
 obtain⟨X,h1,h2,h3⟩:=h
 exact⟨X,h1.nw hw,h2.nw hw,h3⟩
theorem Tw.put {T:Nat→Prop}(h:Tw Y w0 w b dp v dd) (hw:Only T w w') (ht:∀k,T k→k<w.heap.size→Y k∧w0.heap.size≤k) (hy:∀k,Z k→Y k∨w.heap.size≤k∧k<w'.heap.size):Tw Z w0 w' b dp v dd:=by
 obtain⟨X,h1,h2,h3⟩:=h
 have hlt:=h1.lt
 refine⟨X,h1.put hw (fun k hk hl=>⟨.inr (ht k hk hl).1,(ht k hk hl).2⟩) (fun k hk=>?_),h2.put hw (fun k hk hl hT=>h3 k hk (ht k hT hl).1),fun k hk hz=>?_⟩
 ·rcases hk with hk|hk
  ·exact .inl (.inl hk)
  ·exact (hy k hk).imp .inr id
 ·rcases hy k hz with h|h
  ·exact h3 k hk h
  ·have:=hlt k (.inl hk);omega
theorem Tw.nwY (h:Tw Y w0 w b dp v dd) (hw:Nw w w') (hy:∀k,Z k→Y k∨w.heap.size≤k∧k<w'.heap.size):Tw Z w0 w' b dp v dd:=h.put hw (fun _ hf=>hf.elim) hy
theorem Tw.new (h:HasX Y w0 w b dp) (hr:RD (fun k=>w.heap.size≤k) w' v dd) (hw:Nw w w'):Tw Y w0 w' b dp v dd:=by
 refine⟨fun k=>w.heap.size≤k∧k<w'.heap.size,h.nwY hw (fun k hk=>hk.symm),hr.narrow,fun k hk hy=>?_⟩
 have:=h.lt k hy
 omega
theorem Tw.dsk {P:Program}{f:FuncId}{args:Array Value}{y:Value}(h:Tw Y w0 w b dp v dd)
  (hc:∀X:Nat→Prop,(∀k,Y k→X k)→HasX X w0 w b dp→Calls P f args w (DidX X w0 w b dp' y)) :
  Calls P f args w fun e w'=>e=.returned y∧Tw Y w0 w' b dp' v dd∧Kept Y w w':=by
 obtain⟨X,h1,h2,h3⟩:=h
 refine (hc _ (fun k hk=>.inr hk) h1).mono ?_
 rintro e w' ⟨he,hx,hk⟩
 exact⟨he,⟨X,hx,⟨h2.1,h2.2.elim fun r hr=>⟨r,hr.1.kept (hk.weak fun k hk=>.inl hk),hr.2⟩⟩,h3⟩,hk.weak fun k hk=>.inr hk⟩
theorem Tw.does {P:Program}{f:FuncId}{args:Array Value}{R:(Nat→Prop)→Ending→World→Prop}(h:Tw Y w0 w b dp v dd)
  (hc:∀X:Nat→Prop,(∀k,Y k→X k)→HasX X w0 w b dp→Calls P f args w fun e w'=>R X e w'∧HasX X w0 w' b dp'∧Kept X w w') :
  Calls P f args w fun e w'=>∃X,(∀k,Y k→X k)∧R X e w'∧Tw Y w0 w' b dp' v dd∧Kept X w w':=by
 obtain⟨X,h1,h2,h3⟩:=h
 refine (hc _ (fun k hk=>.inr hk) h1).mono ?_
 rintro e w' ⟨he,hx,hk⟩
 exact⟨_,fun k hk=>.inr hk,he,⟨X,hx,⟨h2.1,h2.2.elim fun r hr=>⟨r,hr.1.kept (hk.weak fun k hk=>.inl hk),hr.2⟩⟩,h3⟩,hk⟩
theorem Tw.docs {P:Program}{f:FuncId}{args:Array Value}{E:Ending→Value→World→Prop}(h:Tw Y w0 w b dp v dd)
  (hc:∀X:Nat→Prop,(∀k,w.heap.size≤k→X k)→RD X w v dd→Calls P f args w fun e w'=>∃v',E e v' w'∧RD X w' v' dd'∧Nw w w') :
  Calls P f args w fun e w'=>∃v',E e v' w'∧Tw Y w0 w' b dp v' dd'∧Nw w w':=by
 obtain⟨X,h1,h2,h3⟩:=h
 have hlt:=h1.lt
 refine (hc (fun k=>X k∨w.heap.size≤k) (fun k hk=>.inr hk) (h2.mono fun k hk=>.inl hk)).mono ?_
 rintro e w' ⟨v',he,hr,hn⟩
 refine⟨v',he,⟨fun k=>X k∨(w.heap.size≤k∧k<w'.heap.size),h1.nwY hn (fun k hk=>?_),hr.narrow.mono (fun k hk=>?_),fun k hk hy=>?_⟩,hn⟩
 ·rcases hk with (hk|hk)|hk
  ·exact .inl (.inl hk)
  ·exact .inr hk
  ·exact .inl (.inr hk)
 ·rcases hk with ⟨h|h,h'⟩
  ·exact .inl h
  ·exact .inr ⟨h,h'⟩
 ·rcases hk with hk|hk
  ·exact h3 k hk hy
  ·have:=hlt k (.inr hy);omega
theorem Tw.rde {P:Program}{f:FuncId}{args:Array Value}{x:Int}(h:Tw Y w0 w b dp v dd)
  (hc:∀X:Nat→Prop,(∀k,w.heap.size≤k→X k)→RD X w v dd→Calls P f args w (RDE X w dd' x)) :
  Calls P f args w fun e w'=>∃(m:Int) (a:Option Addr) (n c:Nat) (la:Int) (dn:Bool),e=.returned (.tuple #[.agg #[.int .i64 m,.slice a n c,.int .i64 la,.bool dn],.int .i64 x])∧Tw Y w0 w' b dp (.agg #[.int .i64 m,.slice a n c,.int .i64 la,.bool dn]) dd'∧Nw w w':=by
 refine (h.docs (dd':=dd') (E:=fun e v' _=>∃(m:Int) (a:Option Addr) (n c:Nat) (la:Int) (dn:Bool),v'=.agg #[.int .i64 m,.slice a n c,.int .i64 la,.bool dn]∧e=.returned (.tuple #[v',.int .i64 x])) (fun X hX hR=>(hc X hX hR).mono ?_)).mono ?_
 ·rintro e w' ⟨m,a,n,c,la,dn,rfl,h1,h2⟩
  exact⟨_,⟨m,a,n,c,la,dn,rfl,rfl⟩,h1,h2⟩
 ·rintro e w' ⟨v',⟨m,a,n,c,la,dn,rfl,rfl⟩,h1,h2⟩
  exact⟨m,a,n,c,la,dn,rfl,h1,h2⟩
theorem Tw.rd1 {P:Program}{f:FuncId}{args:Array Value}(h:Tw Y w0 w b dp v dd)
  (hc:∀X:Nat→Prop,(∀k,w.heap.size≤k→X k)→RD X w v dd→Calls P f args w (RD1 X w dd')) :
  Calls P f args w fun e w'=>∃(m:Int) (a:Option Addr) (n c:Nat) (la:Int) (dn:Bool),e=.returned (.agg #[.int .i64 m,.slice a n c,.int .i64 la,.bool dn])∧Tw Y w0 w' b dp (.agg #[.int .i64 m,.slice a n c,.int .i64 la,.bool dn]) dd'∧Nw w w':=by
 refine (h.docs (dd':=dd') (E:=fun e v' _=>∃(m:Int) (a:Option Addr) (n c:Nat) (la:Int) (dn:Bool),v'=.agg #[.int .i64 m,.slice a n c,.int .i64 la,.bool dn]∧e=.returned v') (fun X hX hR=>(hc X hX hR).mono ?_)).mono ?_
 ·rintro e w' ⟨m,a,n,c,la,dn,rfl,h1,h2⟩
  exact⟨_,⟨m,a,n,c,la,dn,rfl,rfl⟩,h1,h2⟩
 ·rintro e w' ⟨v',⟨m,a,n,c,la,dn,rfl,rfl⟩,h1,h2⟩
  exact⟨m,a,n,c,la,dn,rfl,h1,h2⟩
theorem Tw.parts (h:Tw Y w0 w b dp v dd):∃(m:Int) (a:Option Addr) (n c:Nat) (la:Int) (dn:Bool),v=.agg #[.int .i64 m,.slice a n c,.int .i64 la,.bool dn]:=by
 obtain⟨X,h2⟩:=h.doc
 exact h2.parts
theorem Tw.same (h:Tw Y w0 w b d v d):Calls Tryz.prog 12 #[.pointer (some ⟨b,0,none⟩),v] w fun e w'=>e=.returned (.bool true)∧Nw w w':=by
 obtain⟨S,hS,-⟩:=h.has
 obtain⟨X,-,r,hr,ho⟩:=h.doc
 exact SameDisk_ok hS hr ho
theorem rd_new (m:Int) (h0:0≤m) (h1:m≤16777216) (w:World) (X:Nat→Prop):RD X w (.agg #[.int .i64 m,.slice none 0 0,.int .i64 (-1),.bool false]) (newDsk m):=
 ⟨⟨h0,h1,by simp[newDsk],by simp[newDsk],List.nodup_nil,(fun n hn=>(List.not_mem_nil hn).elim),by simp[newDsk],(by simpa [newDsk,usedF] using h0),(fun x hx=>(List.not_mem_nil hx).elim)⟩,newDsk m,⟨_,rfl,[],⟨rfl,.inl ⟨none,rfl,rfl⟩⟩,rfl,fun hne=>absurd rfl hne⟩,ref_new m⟩
end
set_option maxHeartbeats 3200000
def FilesAt (w:World) (v:Value) (l:List (Str×List UInt8)):Prop:=∃a cap,v=.slice a l.length cap∧l.length≤cap∧cap≤maxLen∧∀i (hi:i<l.length),∃g o ba bc,a=some ⟨g,o,none⟩∧g<w.heap.size ∧
 w.cell? ⟨g,o+i*2,none⟩=some (.string ⟨l[i].1.toArray⟩)∧w.cell? ⟨g,o+i*2+1,none⟩=some (.slice ba l[i].2.length bc)∧Bs w (.slice ba l[i].2.length bc) l[i].2
def madeD (l:List (Str×List UInt8)):Dsk:=l.foldl (fun d x=>(d.append x.1 x.2).1) (newDsk 1048576)
theorem madeD_succ (l:List (Str×List UInt8)) (k:Nat) (h:k<l.length):madeD (l.take (k+1))=((madeD (l.take k)).append l[k].1 l[k].2).1:=by
 unfold madeD
 rw[List.take_succ_eq_append_getElem h,List.foldl_append]
 rfl
theorem m6 {Y:Nat→Prop}{W wc:World}{b p6 g o n k cap xc:Nat}{d d2:Dsk}{m la:Int}{a:Option Addr}{nn c:Nat}{dn:Bool}{nm:Str}{bs:List UInt8}{xa:Option Addr}{y:Int}(hk:k<n) (hcap:n≤cap) (C0:Hid (wc.cell? ⟨g,o+k*2,none⟩=some (.string ⟨nm.toArray⟩))) (C1:Hid (wc.cell? ⟨g,o+k*2+1,none⟩=some (.slice xa bs.length xc))) (_HG:Hid (g<W.heap.size)) (HBW:Hid (Bs W (.slice xa bs.length xc) bs)) (hnl:nm.length≤100) (hbl:bs.length≤1000000) (HR:Hid (d.append nm bs=(d2,y))) (HT:Hid (Tw Y W wc b d (.agg #[.int .i64 m,.slice a nn c,.int .i64 la,.bool dn]) d))  {u1 u2 u3 u5 u7 u9 u10 u11 u12 u13 u14 u15 u16 u17 u18 u19 u20 u21 u22 u23 u24 u25 u26 u27 u28 u29 u30 u31 u32 u33 u34 u35 u36 u37 u38 u39 u40 u41 u42 u43 u44 u45 u46 u47 u48 u49 u50 u51:Value}{Q:Exit→Act→World→Prop}(hP:PanicOk Q)
  (hQ:∀(s23 s24 s25 s26 s27 s28 s29 s30 s31 s32 s33 s34:Value)  (wx:World),Tw Y W wx b d2 (.agg #[.int .i64 m,.slice a nn c,.int .i64 la,.bool dn]) d→Kept Y wc wx→Q .normal ⟨#[.slice (some ⟨g,o,none⟩) n cap,u1,u2,u3,.pointer (some ⟨b,0,none⟩),u5,.pointer (some ⟨p6,0,none⟩),u7,.int .i64 k,u9,u10,u11,u12,u13,u14,u15,u16,u17,u18,u19,u20,u21,u22,s23,s24,s25,s26,s27,s28,s29,s30,s31,s32,s33,s34,u35,u36,u37,u38,u39,u40,u41,u42,u43,u44,u45,u46,u47,u48,u49,u50,u51],[]⟩ wx) :
  Code.wp Tryz.prog ((Tryz.f7.body.bind (regionOf 6)).getD .skip) Q ⟨#[.slice (some ⟨g,o,none⟩) n cap,u1,u2,u3,.pointer (some ⟨b,0,none⟩),u5,.pointer (some ⟨p6,0,none⟩),u7,.int .i64 k,u9,u10,u11,u12,u13,u14,u15,u16,u17,u18,u19,u20,u21,u22,u23,u24,u25,u26,u27,u28,u29,u30,u31,u32,u33,u34,u35,u36,u37,u38,u39,u40,u41,u42,u43,u44,u45,u46,u47,u48,u49,u50,u51],[]⟩ wc:=by
 have _hP:=hP
 dsimp only at hQ ⊢
 conv=>arg 2;whnf
 have HQ:=zH hQ
 clear hQ
 have hk0:(0:Int)≤(k:Int):=by omega
 have hk1:(k:Int)<(n:Int):=by omega
 have hk2:k<cap:=by omega
 have T0:=zH (HT.out.nw ((Nw.refl wc).drew))
 refine wp_region_steps 11 [.rd 0,.rd 1,.rd 2,.rd 3,.rd 4,.rd 5,.rd 6,.rd 7,.rd 8,.rd 9,.rd 10] [11] (fun x=>x.cell? ⟨g,o+k*2,none⟩=some (.string ⟨nm.toArray⟩)∧x.cell? ⟨g,o+k*2+1,none⟩=some (.slice xa bs.length xc)) (by kernel_rfl) (by kernel_rfl) hP ⟨C0.out,C1.out⟩ ?_
 refine stp_to (.pointer (some ⟨b,0,none⟩)) rfl rfl rfl (fun x hx=>by go_simp) (fun K hK=>?_);go_simp;refine hK _ ?_;clear hK K
 refine stp_to (.slice (some ⟨g,o,none⟩) n cap) rfl rfl rfl (fun x hx=>by go_simp) (fun K hK=>?_);go_simp;refine hK _ ?_;clear hK K
 refine stp_to (.int .i64 k) rfl rfl rfl (fun x hx=>by go_simp) (fun K hK=>?_);go_simp;refine hK _ ?_;clear hK K
 refine stp_to (.pointer (some ⟨g,o+k*2,none⟩)) rfl rfl rfl (fun x hx=>by go_simp) (fun K hK=>?_);go_simp;refine hK _ ?_;clear hK K
 refine stp_to (.pointer (some ⟨g,o+k*2,none⟩)) rfl rfl rfl (fun x hx=>by go_simp) (fun K hK=>?_);go_simp;refine hK _ ?_;clear hK K
 refine stp_to (.string ⟨nm.toArray⟩) rfl rfl rfl (fun x hx=>by obtain⟨e1,e2⟩:=hx;go_simp) (fun K hK=>?_);go_simp;refine hK _ ?_;clear hK K
 refine stp_to (.slice (some ⟨g,o,none⟩) n cap) rfl rfl rfl (fun x hx=>by go_simp) (fun K hK=>?_);go_simp;refine hK _ ?_;clear hK K
 refine stp_to (.int .i64 k) rfl rfl rfl (fun x hx=>by go_simp) (fun K hK=>?_);go_simp;refine hK _ ?_;clear hK K
 refine stp_to (.pointer (some ⟨g,o+k*2,none⟩)) rfl rfl rfl (fun x hx=>by go_simp) (fun K hK=>?_);go_simp;refine hK _ ?_;clear hK K
 refine stp_to (.pointer (some ⟨g,o+k*2+1,none⟩)) rfl rfl rfl (fun x hx=>by go_simp) (fun K hK=>?_);go_simp;refine hK _ ?_;clear hK K
 refine stp_to (.slice xa bs.length xc) rfl rfl rfl (fun x hx=>by obtain⟨e1,e2⟩:=hx;go_simp) (fun K hK=>?_);go_simp;refine hK _ ?_;clear hK K
 refine wpSteps_nil ?_
 refine stp_do rfl (by decide) (fun K hK=>?_)
 go_wp2_with fail
 refine (T0.out.dsk (fun X hY hX=>hX.append nm bs _ (HBW.out.nw hX.base) (fun hne g' hg=>.inr (HBW.out.lt hne g' hg)) (by omega) (by omega) HR.out)).mono ?_
 rintro e w1 ⟨rfl,t1,k1⟩
 have T1:=zH t1
 have K1:=zH (((Nw.refl wc).drew).kept.trans k1)
 clear t1 k1
 go_wp2
 (try (refine hK _ _ ?_;clear hK K))
 refine wpNums_nil ?_
 exact HQ.out _ _ _ _ _ _ _ _ _ _ _ _  w1 T1.out K1.out
theorem made_ok {w:World}{v:Value}{l:List (Str×List UInt8)}(hv:FilesAt w v l) (h1:l.length≤1000) (h2:∀x∈l,x.1.length≤100) (h3:∀x∈l,x.2.length≤1000000) :
  Calls Tryz.prog 7 #[v] w fun e w'=>∃(b:Nat) (m:Int) (a:Option Addr) (n c:Nat) (la:Int) (dn:Bool),e=.returned (.tuple #[.pointer (some ⟨b,0,none⟩),.agg #[.int .i64 m,.slice a n c,.int .i64 la,.bool dn]]) ∧
   Tw (fun _=>False) w w' b (madeD l) (.agg #[.int .i64 m,.slice a n c,.int .i64 la,.bool dn]) (madeD l):=by
 obtain⟨a0,cap,rfl,hcap,hm,hel⟩:=hv
 have HE:=zH hel
 have H2:=zH h2
 have H3:=zH h3
 clear hel h2 h3
 unfold maxLen at hm
 obtain⟨n,hn⟩:=zN (l.length)
 rw[hn]at hcap h1 ⊢
 have HN:=zH hn
 clear hn
 have NA:=zH ((Nw.refl w).alloc (DB (.int .i64 0) (.slice none 0 0) (.int .i64 0) (.bool false)))
 have BA:=zH (heap_alloc_new w (DB (.int .i64 0) (.slice none 0 0) (.int .i64 0) (.bool false)))
 obtain⟨w0,hw0⟩:=zN (w.alloc (DB (.int .i64 0) (.slice none 0 0) (.int .i64 0) (.bool false)))
 rw[hw0]at NA BA
 unfold DB at hw0
 go_enter Tryz.func7,Tryz.ntmps7
 go_upto_region 1 with fail
 clear hw0
 go_wp2_with fail
 refine (HasX.new 1048576 w0 (by omega) (by omega)).mono ?_
 rintro e w1 ⟨b,rfl,H1⟩
 have H1:=zH H1
 go_wp2_with fail
 refine (rNew_ok w1 1048576 (by omega) (by omega)).mono ?_
 rintro e w2 ⟨rfl,n2⟩
 have N2:=zH n2
 clear n2
 have hD:Tw (fun k=>False∨k<w0.heap.size) w0 w2 b (newDsk 1048576) (.agg #[.int .i64 1048576,.slice none 0 0,.int .i64 (-1),.bool false]) (newDsk 1048576):=Tw.new H1.out.old (rd_new 1048576 (by omega) (by omega) w2 _) N2.out
 have NB:=(Nw.refl w2).alloc (DB (.int .i64 1048576) (.slice none 0 0) (.int .i64 (-1)) (.bool false))
 have B6:=zH (heap_alloc_new w2 (DB (.int .i64 1048576) (.slice none 0 0) (.int .i64 (-1)) (.bool false)))
 have T0:=zH (hD.nwY (Z:=fun k=>k<w0.heap.size∨k=w2.heap.size) NB (fun k hk=>hk.imp .inr (fun e=>by subst e;simp)))
 have HPW:Hid (w0.heap.size≤w2.heap.size):=zH hD.base.size
 obtain⟨p6,hp6⟩:=zN (w2.heap.size)
 rw[hp6]at B6 T0 HPW
 clear hD NB H1 N2
 go_upto_region 3 with fail
 rw[show (Obj.cells #[.int .i64 1048576,.slice none 0 0,.int .i64 (-1),.bool false] 28)=DB (.int .i64 1048576) (.slice none 0 0) (.int .i64 (-1)) (.bool false) from rfl]
 generalize w2.alloc (DB (.int .i64 1048576) (.slice none 0 0) (.int .i64 (-1)) (.bool false))=w3 at B6 T0 ⊢
 (try rw[hp6])
 clear hp6
 go_wp2
 go_loopw [8] (fun i wr=>∃(k:Nat) (m:Int) (a:Option Addr) (nn c:Nat) (la:Int) (dn:Bool),k≤n∧i=.int .i64 k∧Tw (fun k=>k<w0.heap.size∨k=p6) w0 wr b (madeD (l.take k)) (.agg #[.int .i64 m,.slice a nn c,.int .i64 la,.bool dn]) (madeD (l.take k))∧wr.heap[p6]? = some (DB (.int .i64 m) (.slice a nn c) (.int .i64 la) (.bool dn))) (fun i _=>n-(intOf i).toNat)
 case atStart=>exact⟨0,_,_,_,_,_,_,by omega,rfl,T0.out,B6.out⟩
 case round =>
  obtain⟨k,m,a,nn,c,la,dn,hk,rfl,hT,hB⟩:=hrel
  have HT:=zH hT
  have HB:=zH hB
  clear hT hB T0 B6
  by_cases hlt:k<n
  ·have hkl:k<l.length:=by rw[HN.out];exact hlt
   obtain⟨g,o,xa,xc,rfl,hg,c0,c1,hbs⟩:=HE.out k hkl
   have hsu:=madeD_succ l k hkl
   have hx1:=H2.out _ (List.getElem_mem hkl)
   have hx2:=H3.out _ (List.getElem_mem hkl)
   generalize l[k]=x at c0 c1 hbs hsu hx1 hx2
   obtain⟨nm,bs⟩:=x
   simp only at c0 c1 hbs hsu hx1 hx2
   generalize madeD (l.take k)=d at HT hsu
   obtain⟨d2,y,hr⟩:∃d2 y,d.append nm bs=(d2,y):=⟨_,_,rfl⟩
   rw[hr]at hsu
   have HSU:=zH hsu
   have HR:=zH hr
   have HBS:=zH (hbs.nw NA.out)
   have HG:=zH (Nat.lt_of_lt_of_le hg NA.out.size)
   have C0:=zH (HT.out.base.cell (NA.out.cell c0))
   have C1:=zH (HT.out.base.cell (NA.out.cell c1))
   have CC:=zH (fun W' (hW:Nw w0 W')=>And.intro (hW.cell (NA.out.cell c0)) (hW.cell (NA.out.cell c1)))
   clear hr hsu hbs hg c0 c1 hkl
   have q1:decide ((k:Int)<(n:Int))=true:=by simp;omega
   have hk0:(0:Int)≤(k:Int):=by omega
   have hwk:IntKind.i64.wrap ((k:Int)+1)=((k+1:Nat):Int):=by rw[←Int.natCast_one,←Int.natCast_add];exact IntWalk.i64_in _ (by omega)
   go_upto_region 6 with fail
   refine m6 hlt hcap C0 C1 HG HBS hx1 hx2 HR HT (fun _ _ _ _ _ h=>h) ?_
   intro s23 s24 s25 s26 s27 s28 s29 s30 s31 s32 s33 s34 w4 t4 k4
   have T4:=zH t4
   have B4:=zH (k4.at_ HB.out (.inr rfl))
   clear t4 k4
   go_upto_region 7 with fail
   obtain⟨c0,c1⟩:=CC.out _ T4.out.base
   obtain⟨b0,b1,b2,b3,-⟩:=box_cells B4.out
   have RC:=zH (fun (W':World) (hW:Nw w4 W')=>(T4.out.nw hW).rde (fun X hX hR=>hR.append hX (n:=nm) (l:=bs) (by omega) (HBS.out.nw (T4.out.base.trans hW)) (by omega) HR.out))
   go_region_with (refine (RC.out _ (Nw.refl w4).drew).mono ?_;rintro e w5 ⟨m',a',n',c',la',dn',rfl,t1,n1⟩;have T5:=zH t1;have N5:=zH (((Nw.refl w4).drew).trans n1);clear t1 n1;have B5:=zH (N5.out.at_ B4.out);obtain⟨x0,x1,x2,x3,z0,z1,z2,z3⟩:=box_cells B5.out)
   all_goals
    have hO:=only_set4 w5 p6 (.int .i64 m') (.slice a' n' c') (.int .i64 la') (.bool dn')
    have T6:=zH (T5.out.put (Z:=fun k=>k<w0.heap.size∨k=p6) hO (fun j hj _=>⟨.inr hj,by rw[hj];exact HPW.out⟩) (fun j hj=>.inl hj))
    have B6:=zH (heap_set4 B5.out (.int .i64 m') (.slice a' n' c') (.int .i64 la') (.bool dn'))
    clear hO x0 x1 x2 x3 z0 z1 z2 z3
    go_wp2
    go_roundw
    case rel=>exact⟨k+1,m',a',n',c',la',dn',by omega,by first|rfl|(simp;done)|rw[hwk],by rw[HSU.out];exact T6.out,B6.out⟩
    case measure=>simp only[intOf];omega
  ·obtain rfl:k=n:=by omega
   have q1:decide ((k:Int)<(k:Int))=false:=by simp
   have el:l.take k=l:=List.take_of_length_le (by rw[HN.out];omega)
   rw[el]at HT
   obtain⟨b0,b1,b2,b3,-⟩:=box_cells HB.out
   have BR:=zH (HT.out.base.at_ BA.out)
   obtain⟨x0,x1,x2,x3,z0,z1,z2,z3⟩:=box_cells BR.out
   have hlt2:=lt_of_block BR.out
   go_wp2
   go_region_with fail
   all_goals
    (try go_wp2)
    have hO:=only_set4 wr w.heap.size (.int .i64 m) (.slice a nn c) (.int .i64 la) (.bool dn)
    have T6:=(HT.out.rebase NA.out).put (Z:=fun _=>False) hO (fun j hj _=>⟨.inl (by have:=NA.out.size;have:=lt_of_block BA.out;omega),by omega⟩) (fun j hj=>hj.elim)
    have B6:=heap_set4 BR.out (.int .i64 m) (.slice a nn c) (.int .i64 la) (.bool dn)
    generalize ((((wr.setCell ⟨w.heap.size,0,none⟩ (.int .i64 m)).setCell ⟨w.heap.size,1,none⟩ (.slice a nn c)).setCell ⟨w.heap.size,2,none⟩ (.int .i64 la)).setCell ⟨w.heap.size,3,none⟩ (.bool dn))=w9 at T6 B6 ⊢
    obtain⟨e0,e1,e2,e3,-⟩:=box_cells B6
    refine bodyPost_ret (v:=.tuple #[.pointer (some ⟨b,0,none⟩),.agg #[.int .i64 m,.slice a nn c,.int .i64 la,.bool dn]]) (by simp[results,Tryz.results7,go_sem,e0,e1,e2,e3]) rfl ?_
    first
     |exact⟨b,m,a,nn,c,la,dn,rfl,T6⟩
     |exact⟨b,m,a,nn,c,la,dn,rfl,T6.nw ((Nw.refl _).drew)⟩
end Go.Proofs.YtkbenkldfehhlaaGreatDoor
namespace Go.Proofs.YtkbenkldfehhlaaGreatDoor
open Go
def resumeD (d:Dsk) (size:Int) (l:List Pc) (n:Int):Dsk×Int:=
 if size<64∨16777216<size∨rightL l=false∨n<(lastP l).first∨2305843009213693952<n then (d,2) else
 if (d.read (lastP l).name).2≠0 then (d,(d.read (lastP l).name).2) else d.sync (lastP l).name
def onLg (d:Dsk) (size:Int) (l:List Pc) (n:Nat):Lg:=⟨size,l,n,n,(fileOf d.files (lastP l).name).bytes.length,false⟩
section
variable {size:Int}{c:Nat}{d:Dsk}{L:Lg}{p:Pc}{last:Nat}
end
section
variable {d d':Dsk}{n:Str}{b:List UInt8}
end
def segB (n:Nat) (fs:List (List Ev)):List UInt8:=headB n++fs.flatMap frmB
def FrOk (fs:List (List Ev)):Prop:=∀f∈fs,1≤f.length∧f.length≤4096∧∀e∈f,e.Ok
def sealedF (Wh:Pc→List UInt8→List Ev→Prop) (F:List (Str×DFile)):List Pc→List Ev→Prop
 |[],es=>es=[]
 |q::l,es=>∃b e1 e2,fileOf F q.name=⟨b,b.length⟩∧Wh q b e1∧es=e1++e2∧sealedF Wh F l e2
section
variable {Wh:Pc→List UInt8→List Ev→Prop}{F F':List (Str×DFile)}{d:Dsk}{L L':Lg}{all old:List Ev}{A:List Pc}{p:Pc}{fs:List (List Ev)}{m:Nat}
theorem right_bound (h:RightP A p):∀q∈A++[p],0≤q.first∧q.first<2 ^ 60:=by
 have:=(rightL_iff A p).2 h
 exact fun q hq=>⟨((rightL_bound this).2.2 q hq).2.1,((rightL_bound this).2.2 q hq).2.2.1⟩
end
theorem read_of {d:Dsk}(hd:d.down=false){n:Str}{b:List UInt8}(hb:(fileOf d.files n).bytes=b) (hne:b≠[]):d.read n=(b,0):=by
 unfold Dsk.read
 rw[hd]
 simp only[Bool.false_eq_true,if_false]
 unfold fileOf at hb
 cases hg:getF d.files n with
 |none=>rw[hg]at hb;exact absurd hb.symm hne
 |some f=>rw[hg]at hb;simp only[Option.getD_some]at hb;show (f.bytes,(0:Int))=_;rw[hb]
theorem manifestB_ne (l:List Pc):manifestB l≠[]:=by simp[manifestB,manifestIn,sealB]
theorem headB_ne (n:Nat):headB n≠[]:=by simp[headB,sealB]
end Go.Proofs.YtkbenkldfehhlaaGreatDoor
