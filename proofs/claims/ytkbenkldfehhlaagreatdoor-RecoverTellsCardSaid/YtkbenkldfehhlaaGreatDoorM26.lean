/-
  Texts merged by a program of this claim's: RecCut, BuiltPlain, Lives, FilesArg, ReadD.
-/
import Derived.Test.YtkbenkldfehhlaaGreatDoorM25
import Derived.Test.YtkbenkldfehhlaaGreatDoorM19
import Derived.Test.YtkbenkldfehhlaaGreatDoorM20
import Derived.Test.YtkbenkldfehhlaaGreatDoorM24
import Derived.Test.YtkbenkldfehhlaaGreatDoorM11
import Derived.Test.YtkbenkldfehhlaaGreatDoorShelfS
namespace Go.Proofs.YtkbenkldfehhlaaGreatDoor
open Go
section
variable {Wh Wh':Pc→List UInt8→List Ev→Prop}{U:List UInt8→Int×List Ev×Int}{F F':List (Str×DFile)}{l A:List Pc}{p q:Pc}{old told es all:List Ev}{fs:List (List Ev)}{t b:List UInt8}{m sure:Nat}{d:Dsk}{L:Lg}
end
section
variable {size:Int}{c:Nat}{d:Dsk}{L:Lg}{all es:List Ev}
end
theorem scan_new {U:List UInt8→Int×List Ev×Int}(m:Int):scanD U (newDsk m)=⟨[],[],0,0⟩:=scan_no rfl (by simp[newDsk,namesF])
theorem mend_new {U:List UInt8→Int×List Ev×Int}(m:Int):mendD U (newDsk m)=⟨newDsk m,[],[],0⟩:=by
 have hl:(newDsk m).list=[]:=by simp[newDsk,Dsk.list,namesF]
 have hc:cutD (newDsk m) [] 0=(newDsk m,0):=by unfold cutD;simp
 unfold mendD
 rw[scan_new]
 unfold mendWith
 simp only
 rw[hc,hl]
 simp[rmAll]
theorem open_new {U:List UInt8→Int×List Ev×Int}{m size:Int}{d:Dsk}(hs:64≤size) (hs2:size≤16777216) (hc:createD (newDsk m) size=(d,0)):openD U (newDsk m) size=⟨d,newLg size,[],0⟩:=by
 unfold openD
 rw[mend_new]
 rw[if_neg (by omega),if_neg (by simp),if_pos (by rfl)]
 simp only
 rw[hc,if_neg (by simp)]
open Go.ChangeAt Go.ChangeShapes Go.Deep Go.RowKit Go.WideShapes
set_option maxRecDepth 100000
section
variable {H:Type}{enc:TypeId×Value→H}{W:World}
end
def isFile (W:World) (cs:List Value) (x:Str×List UInt8):Prop:=∃v,cs=[.string ⟨x.1.toArray⟩,v]∧Bs W v x.2
section
variable {H:Type}{enc:TypeId×Value→H}{W:World}
theorem Opener.file:Opener enc Tryz.prog W 84 (isFile W):=
 (Opener.struct2 Tryz.underlying84 (by kernel_rfl) (by kernel_rfl) (Opener.str Tryz.underlying9) (Opener.bytes Tryz.underlying79 Tryz.underlying5 (by kernel_rfl))).imp
  fun cs ⟨n,b⟩ ⟨c0,c1,hc,⟨e0,_⟩,⟨u,e1,h1⟩⟩=>by
   simp only[List.cons.injEq,and_true]at e0 e1
   subst e0 e1
   exact⟨⟨n,b⟩,c1,hc,h1⟩
theorem arg_files {r:Reach}{b0:Nat}{v:Value}{d:DataW H}{ps:List MemPlace}(hval:Value.okWide Tryz.prog W r b0 22 v) (h:DataW.Trod enc Tryz.prog W 0 (fun _=>true) true 22 v d ps) :
  ∃l:List (Str×List UInt8),RdK 2 (isFile W) W v l:=arg_slice (k:=2) Tryz.underlying22 (by kernel_rfl) (by omega) Opener.file hval h
end
theorem RdK.files {w:World}{v:Value}{l:List (Str×List UInt8)}(h:RdK 2 (isFile w) w v l):FilesAt w v l:=by
 obtain⟨a,cap,h1,h2,h3,-⟩:=h.len
 refine⟨a,cap,h1,h2,h3,fun i hi=>?_⟩
 rcases h with ⟨b,rfl,rfl⟩|⟨g,o,c,rfl,-,-,hg,hel⟩
 ·cases hi
 ·cases h1
  obtain⟨cs,hck,hc,x,rfl,hb⟩:=hel i hi
  obtain⟨ba,bc,rfl,-⟩:=hb.len
  exact⟨g,o,ba,bc,rfl,hg,by simp,by simp,hb⟩
def smallF (l:List (Str×List UInt8)):Bool:=decide (l.length≤10) && l.all fun x=>decide (x.1.length≤60) && decide (x.2.length≤3000)
set_option maxHeartbeats 1600000
theorem small6_ok {w:World}{v:Value}{l:List (Str×List UInt8)}(hv:FilesAt w v l):Calls Tryz.prog 5 #[v] w fun e w'=>e=.returned (.bool (smallF l))∧w=w':=by
 obtain⟨a,cap,rfl,h1,h2,hel⟩:=hv
 obtain⟨n,hn⟩:=zN (l.length)
 obtain⟨S,hS⟩:=zN (smallF l)
 rw[hS]
 have HEL:=zH hel
 have HN:=zH hn
 have HS:=zH hS
 rw[hn]at h1 ⊢
 clear hel hn hS
 unfold maxLen at h2
 by_cases c1:10<n
 ·have q1:decide ((10:Int)<(n:Int))=true:=by simp;omega
  have r:S=false:=by rw[←HS.out];unfold smallF;rw[HN.out,decide_eq_false (by omega)];rfl
  subst r
  clear HS
  go_enter Tryz.func5,Tryz.ntmps5
  go_wp2
  go_ret
  exact⟨rfl,rfl⟩
 have q1:decide ((10:Int)<(n:Int))=false:=by simp;omega
 go_enter Tryz.func5,Tryz.ntmps5
 go_wp2
 go_loopw [3] (fun iv wr=>∃k:Nat,k≤n∧iv=.int .i64 k∧((l.take k).all fun x=>decide (x.1.length≤60) && decide (x.2.length≤3000))=true∧w=wr) (fun iv _=>n-(intOf iv).toNat)
 case atStart=>exact⟨0,by omega,rfl,rfl,rfl⟩
 case round =>
  obtain⟨k,hk,rfl,hall,rfl⟩:=hrel
  have HA:=zH hall
  clear hall
  by_cases hlt:k<n
  ·have hkl:k<l.length:=by rw[HN.out];exact hlt
   obtain⟨g,o,ba,bc,rfl,hg,x0,x1,-⟩:=HEL.out k hkl
   have q2:decide ((k:Int)<(n:Int))=true:=by simp;omega
   have hk0:(0:Int)≤(k:Int):=by omega
   have hk1:(k:Int)<(n:Int):=by omega
   have HBAD:Hid (¬ (l[k].1.length≤60∧l[k].2.length≤3000)→S=false):=zH (fun h=>by
    rw[←HS.out]
    unfold smallF
    rw[Bool.and_eq_false_iff]
    right
    rw[List.all_eq_false]
    exact⟨l[k],List.getElem_mem hkl,by simpa using h⟩)
   have HNX:Hid (l[k].1.length≤60∧l[k].2.length≤3000→((l.take (k+1)).all fun x=>decide (x.1.length≤60) && decide (x.2.length≤3000))=true):=zH (fun h=>by
    rw[List.take_succ_eq_append_getElem hkl,List.all_append,HA.out]
    simp[h.1,h.2])
   generalize l[k]=x at x0 x1 HBAD HNX
   obtain⟨nm,bs⟩:=x
   simp only at x0 x1 HBAD HNX
   obtain⟨nl,hnl⟩:=zN (nm.length)
   obtain⟨bl,hbl⟩:=zN (bs.length)
   rw[hnl,hbl]at HBAD HNX
   rw[hbl]at x1
   have HNL:=zH hnl
   clear hbl hkl
   by_cases c2:60<nl
   ·have q3:decide ((60:Int)<(nl:Int))=true:=by simp;omega
    have r:=HBAD.out (by omega)
    subst r
    go_wp2
    go_ret
    exact⟨rfl,rfl⟩
   have q3:decide ((60:Int)<(nl:Int))=false:=by simp;omega
   by_cases c3:3000<bl
   ·have q4:decide ((3000:Int)<(bl:Int))=true:=by simp;omega
    have r:=HBAD.out (by omega)
    subst r
    go_wp2
    go_ret
    exact⟨rfl,rfl⟩
   have q4:decide ((3000:Int)<(bl:Int))=false:=by simp;omega
   have hnx:=zH (HNX.out (by omega))
   have hwk:IntKind.i64.wrap ((k:Int)+1)=((k+1:Nat):Int):=by rw[←Int.natCast_one,←Int.natCast_add];exact IntWalk.i64_in _ (by omega)
   go_wp2
   go_roundw
   case rel=>exact⟨k+1,by omega,by first|rfl|(simp;done)|rw[hwk],hnx.out,by first|rfl|trivial⟩
   case measure=>simp only[intOf];omega
  ·obtain rfl:k=n:=by omega
   have q2:decide ((k:Int)<(k:Int))=false:=by simp
   have r:S=true:=by
    rw[←HS.out]
    unfold smallF
    have:=HA.out
    rw[List.take_of_length_le (by rw[HN.out];exact Nat.le_refl _)]at this
    rw[this,HN.out,decide_eq_true (by omega)]
    rfl
   subst r
   go_wp2
   go_ret
   exact⟨rfl,rfl⟩
end Go.Proofs.YtkbenkldfehhlaaGreatDoor
namespace Go.Proofs.YtkbenkldfehhlaaGreatDoor
open Go Go.RowKit Go.Sort
set_option maxRecDepth 100000
set_option maxHeartbeats 1600000
theorem HP_ok (s p:List UInt8) (w:World):Calls Tryz.prog 139 #[.string ⟨s.toArray⟩,.string ⟨p.toArray⟩] w fun e w'=>e=.returned (.bool (decide (p <+: s)))∧w=w':=by
 refine (Tryz.strings_HasPrefix ⟨s.toArray⟩ ⟨p.toArray⟩ w).mono ?_
 rintro e w' ⟨rfl,rfl⟩
 refine⟨?_,rfl⟩
 have:Lib.hasPrefix s p=decide (p <+: s):=by
  unfold Lib.hasPrefix
  rw[Bool.eq_iff_iff,List.isPrefixOf_iff_prefix,decide_eq_true_iff]
 show Ending.returned (.bool (Lib.hasPrefix s p))=_
 rw[this]
theorem shead_ok {w:World}{v:Value}{l:List UInt8}(hv:Bs w v l) (hl:l.length≤90000000){n x e:Int}(hr:headR l=(n,x,e)) :
  Calls Tryz.prog 188 #[v] w fun z w'=>z=.returned (.tuple #[.int .i64 n,.int .i64 x,.int .i64 e])∧Nw w w':=by
 obtain⟨a,cap,rfl,h1,h2,-⟩:=hv.elems
 have HV:=zH hv
 clear h1 h2 hv
 by_cases c4:l.length<4
 ·obtain⟨a',c',hb,hlen,s1,s2⟩:=bs_h HV.out l.length (Nat.le_refl _)
  rw[List.take_length]at hb
  have k1:=conv_str hb
  obtain⟨⟨n0,x0,e0⟩,hu⟩:=zN (getU l l.length)
  have HU:=zH (GetUint_ok HV.out l.length ⟨by omega,by omega⟩ hu)
  have hmn:min (l.length:Int) 4=(l.length:Int):=by omega
  have HP:=zH (HP_ok plainS l w)
  unfold headR at hr
  rw[List.take_of_length_le (by omega)]at hr
  clear hb hu hlen
  by_cases hp:l <+: plainS
  case neg =>
   rw[if_pos hp]at hr
   obtain⟨rfl,rfl,rfl⟩:0=n∧0=x∧10=e:=by simpa using hr
   rw[show decide (l <+: plainS)=false by simpa using hp]at HP
   clear hr
   go_enter Tryz.func188,Tryz.ntmps188
   go_wp2_with fail
   refine HP.out.mono ?_
   rintro z w' ⟨rfl,rfl⟩
   go_wp2
   refine bodyPost_ret (v:=.tuple #[.int .i64 0,.int .i64 0,.int .i64 10]) (by simp[results,Tryz.results188,go_sem]) rfl ⟨rfl,Nw.refl _⟩
  case pos =>
   rw[if_neg (by simpa using hp),if_pos c4]at hr
   obtain⟨rfl,rfl,rfl⟩:0=n∧0=x∧11=e:=by simpa using hr
   rw[show decide (l <+: plainS)=true by simpa using hp]at HP
   clear hr
   go_enter Tryz.func188,Tryz.ntmps188
   go_wp2_with fail
   refine HP.out.mono ?_
   rintro z w' ⟨rfl,rfl⟩
   go_wp2_with fail
   refine HU.out.mono ?_
   rintro z w' ⟨rfl,rfl⟩
   go_wp2
   refine bodyPost_ret (v:=.tuple #[.int .i64 0,.int .i64 0,.int .i64 11]) (by simp[results,Tryz.results188,go_sem]) rfl ⟨rfl,Nw.refl _⟩
 obtain⟨a',c',hb,hlen,s1,s2⟩:=bs_h HV.out 4 (by omega)
 rw[show ((4:Nat):Int)=4 from rfl]at s1 s2
 have k1:=conv_str hb
 obtain⟨⟨n0,x0,e0⟩,hu⟩:=zN (getU l 4)
 have HU:=zH (GetUint_ok HV.out 4 ⟨by omega,by omega⟩ hu)
 have hf:=getU_fine (b:=l) (at_:=4)
 have hmn:min (l.length:Int) 4=4:=by omega
 have HP:=zH (HP_ok plainS (l.take 4) w)
 unfold headR at hr
 rw[hu]at hf hr
 simp only at hf hr
 clear hb hu hlen
 by_cases hp:l.take 4 <+: plainS
 case neg =>
  rw[if_pos hp]at hr
  obtain⟨rfl,rfl,rfl⟩:0=n∧0=x∧10=e:=by simpa using hr
  rw[show decide (l.take 4 <+: plainS)=false by simpa using hp]at HP
  clear hr hf
  go_enter Tryz.func188,Tryz.ntmps188
  go_wp2_with fail
  refine HP.out.mono ?_
  rintro z w' ⟨rfl,rfl⟩
  go_wp2
  refine bodyPost_ret (v:=.tuple #[.int .i64 0,.int .i64 0,.int .i64 10]) (by simp[results,Tryz.results188,go_sem]) rfl ⟨rfl,Nw.refl _⟩
 rw[if_neg (by simpa using hp),if_neg c4]at hr
 rw[show decide (l.take 4 <+: plainS)=true by simpa using hp]at HP
 clear hp
 by_cases c0:e0=0
 case neg =>
  have q1:(e0==0)=false:=by simpa using c0
  have q2:(e0 !=0)=true:=by simpa using c0
  rw[if_neg (fun h=>c0 h.1),if_pos c0]at hr
  obtain⟨rfl,rfl,rfl⟩:0=n∧0=x∧e0=e:=by simpa using hr
  clear hr hf
  go_enter Tryz.func188,Tryz.ntmps188
  go_wp2_with fail
  refine HP.out.mono ?_
  rintro z w' ⟨rfl,rfl⟩
  go_wp2_with fail
  refine HU.out.mono ?_
  rintro z w' ⟨rfl,rfl⟩
  go_wp2
  refine bodyPost_ret (v:=.tuple #[.int .i64 0,.int .i64 0,.int .i64 e0]) (by simp[results,Tryz.results188,go_sem]) rfl ⟨rfl,Nw.refl _⟩
 subst c0
 obtain⟨-,f1,f2,f3⟩:=hf rfl
 obtain⟨k,rfl⟩:∃k:Nat,x0=k:=⟨x0.toNat,by omega⟩
 clear hf
 by_cases c1:4611686018427387904<n0
 ·have q1:decide ((4611686018427387904:Int)<(n0:Int))=true:=by simp;omega
  rw[if_pos ⟨rfl,c1⟩]at hr
  obtain⟨rfl,rfl,rfl⟩:0=n∧0=x∧10=e:=by simpa using hr
  clear hr
  go_enter Tryz.func188,Tryz.ntmps188
  go_wp2_with fail
  refine HP.out.mono ?_
  rintro z w' ⟨rfl,rfl⟩
  go_wp2_with fail
  refine HU.out.mono ?_
  rintro z w' ⟨rfl,rfl⟩
  go_wp2
  refine bodyPost_ret (v:=.tuple #[.int .i64 0,.int .i64 0,.int .i64 10]) (by simp[results,Tryz.results188,go_sem]) rfl ⟨rfl,Nw.refl _⟩
 have q1:decide ((4611686018427387904:Int)<(n0:Int))=false:=by simp;omega
 rw[if_neg (fun h=>c1 h.2),if_neg (by simp)]at hr
 have hw:IntKind.i64.wrap ((k:Int)+4)=(k:Int)+4:=IntWalk.i64_in _ (by omega)
 by_cases c2:(l.length:Int)<(k:Int)+4
 ·have q2:decide ((l.length:Int)<(k:Int)+4)=true:=by simpa using c2
  rw[if_pos c2]at hr
  obtain⟨rfl,rfl,rfl⟩:0=n∧0=x∧11=e:=by simpa using hr
  clear hr
  go_enter Tryz.func188,Tryz.ntmps188
  go_wp2_with fail
  refine HP.out.mono ?_
  rintro z w' ⟨rfl,rfl⟩
  go_wp2_with fail
  refine HU.out.mono ?_
  rintro z w' ⟨rfl,rfl⟩
  go_wp2
  refine bodyPost_ret (v:=.tuple #[.int .i64 0,.int .i64 0,.int .i64 11]) (by simp[results,Tryz.results188,go_sem]) rfl ⟨rfl,Nw.refl _⟩
 have q2:decide ((l.length:Int)<(k:Int)+4)=false:=by simpa using c2
 rw[if_neg c2]at hr
 obtain⟨a2,c2',hb2,hl2,t1,t2⟩:=bs_h HV.out (k+4) (by omega)
 rw[show ((k+4:Nat):Int)=(k:Int)+4 by omega]at t1 t2
 simp only[Int.toNat_natCast]at hr
 obtain⟨⟨u,e1⟩,hun⟩:=zN (unsealB (l.take (k+4)))
 have HUN:=zH (Unseal_ok hb2 (by omega) hun)
 rw[hun]at hr
 simp only at hr
 have hw3:IntKind.i64.wrap (n0:Int)=(n0:Int):=IntWalk.i64_in _ (by omega)
 clear hb2 hl2 hun HV
 by_cases c3:e1=0
 case neg =>
  have q3:(e1 !=0)=true:=by simpa using c3
  rw[if_pos c3]at hr
  obtain⟨rfl,rfl,rfl⟩:0=n∧0=x∧e1=e:=by simpa using hr
  clear hr hw3
  go_enter Tryz.func188,Tryz.ntmps188
  go_wp2_with fail
  refine HP.out.mono ?_
  rintro z w' ⟨rfl,rfl⟩
  go_wp2_with fail
  refine HU.out.mono ?_
  rintro z w' ⟨rfl,rfl⟩
  go_wp2_with fail
  refine HUN.out.mono ?_
  rintro z w1 ⟨v1,rfl,-,n1⟩
  have N1:=zH n1
  clear n1
  go_wp2
  refine bodyPost_ret (v:=.tuple #[.int .i64 0,.int .i64 0,.int .i64 e1]) (by simp[results,Tryz.results188,go_sem]) rfl ⟨rfl,N1.out⟩
 subst c3
 rw[if_neg (by simp)]at hr
 obtain⟨rfl,rfl,rfl⟩:(n0:Int)=n∧(k:Int)+4=x∧0=e:=by simpa using hr
 clear hr
 go_enter Tryz.func188,Tryz.ntmps188
 go_wp2_with fail
 refine HP.out.mono ?_
 rintro z w' ⟨rfl,rfl⟩
 go_wp2_with fail
 refine HU.out.mono ?_
 rintro z w' ⟨rfl,rfl⟩
 go_wp2_with fail
 refine HUN.out.mono ?_
 rintro z w1 ⟨v1,rfl,-,n1⟩
 have N1:=zH n1
 clear n1
 go_wp2
 refine bodyPost_ret (v:=.tuple #[.int .i64 n0,.int .i64 ((k:Int)+4),.int .i64 0]) (by simp[results,Tryz.results188,go_sem]) rfl ⟨rfl,N1.out⟩
theorem evsFrom_place:∀(b:List UInt8) (n:Nat) (at_:Int) (x:Ev) (acc l:List Ev) (to_:Int),evsFrom b n at_ x acc=some (l,to_)→at_+n≤to_
 |_,0,at_,x,acc,l,to_,h=>by
  simp only[evsFrom,Option.some.injEq,Prod.mk.injEq]at h
  omega
 |b,n+1,at_,x,acc,l,to_,h=>by
  unfold evsFrom at h
  split at h
  ·cases h
  ·rename_i he
   have hx:=getE_fine (b:=b) (at_:=at_) (x:=x) (by rcases Decidable.em ((getE b at_ x).2.2=0) with h|h;exact h;exact absurd h he)
   have:=evsFrom_place b n _ _ _ _ _ h
   omega
theorem eventsB_len {b:List UInt8}(h:(eventsB b).2=true):(eventsB b).1.length≤b.length:=by
 unfold eventsB at h ⊢
 split
 ·rename_i h0;rw[if_pos h0]at h;cases h
 ·rename_i h0
  rw[if_neg h0]at h
  have hu:=getU_fine (b:=b) (at_:=0) (by rcases Decidable.em ((getU b 0).2.2=0) with h|h;exact h;exact absurd (.inl h) h0)
  cases hc:evsFrom b (getU b 0).1 (getU b 0).2.1 Ev.zero [] with
  |none=>rw[hc]at h;cases h
  |some r =>
   obtain⟨l,to_⟩:=r
   have h1:=evsFrom_fine _ _ _ _ _ _ hc (fun _ h=>by cases h)
   have h2:=evsFrom_place _ _ _ _ _ _ _ hc
   rw[hc]at h
   simp only[decide_eq_true_eq]at h
   have h3:=h1.2
   simp only[List.length_nil,Nat.zero_add]at h3
   simp only
   omega
theorem readFr_len {b:List UInt8}{at_:Int}(h:(readFr b at_).2.2=0):((readFr b at_).1.length:Int)≤(readFr b at_).2.1-at_:=by
 unfold readFr at h ⊢
 split
 ·rename_i h0;rw[if_pos h0]at h;exact absurd h h0
 ·rename_i h0
  rw[if_neg h0]at h
  have hu:=getU_fine (b:=b) (at_:=at_) (by rcases Decidable.em ((getU b at_).2.2=0) with h|h;exact h;exact absurd h h0)
  split
  ·rename_i h1;rw[if_pos h1]at h;exact absurd h (by decide)
  ·rename_i h1
   rw[if_neg h1]at h
   split
   ·rename_i h2;rw[if_pos h2]at h;exact absurd h (by decide)
   ·rename_i h2
    rw[if_neg h2]at h
    split
    ·rename_i h3;rw[if_pos h3]at h;exact absurd h h3
    ·rename_i h3
     rw[if_neg h3]at h
     have h5:=unsealB_len (b:=frameIn b at_) (by rcases Decidable.em ((unsealB (frameIn b at_)).2=0) with h|h;exact h;exact absurd h h3)
     have h6:(frameIn b at_).length≤(getU b at_).1+4:=by unfold frameIn;simp;omega
     split
     ·rename_i h4
      have:=eventsB_len h4
      simp only
      omega
     ·rename_i h4
      rw[if_neg h4]at h
      exact absurd h (by decide)
theorem frs_yes' {b:List UInt8}{at_:Int}{r:List Ev}{x:Int}(h:readFr b at_=(r,x,0)) (acc:List Ev):frs b at_ acc=frs b x (acc++r):=by
 have:=frs_yes (b:=b) (at_:=at_) (by rw[h]) acc
 rw[h]at this
 exact this
theorem SScan_ok {w:World}{v:Value}{l:List UInt8}(hv:Bs w v l) (hl:l.length≤90000000){n g e:Int}{r:List Ev}(hr:scanB l=(n,r,g,e)) :
  Calls Tryz.prog 144 #[v] w fun z w'=>∃v',z=.returned (.tuple #[.int .i64 n,v',.int .i64 g,.int .i64 e])∧OwnE w w' v' r:=by
 obtain⟨a,cap,rfl,h1,h2,-⟩:=hv.elems
 obtain⟨⟨n0,x0,e0⟩,hu⟩:=zN (headR l)
 have HU:=zH (shead_ok hv hl hu)
 unfold scanB at hr
 rw[hu]at hr
 simp only at hr
 have HV:=zH hv
 have hplace:e0=0→0≤x0∧x0≤l.length:=by
  intro h0
  unfold headR at hu
  split at hu
  ·cases hu;cases h0
  ·split at hu
   ·cases hu;cases h0
   ·split at hu
    ·cases hu;cases h0
    ·split at hu
     ·rename_i hx;cases hu;exact absurd h0 hx
     ·rename_i h4
      have hg:=getU_fine (b:=l) (at_:=4) (by rcases Decidable.em ((getU l 4).2.2=0) with h|h;exact h;exact absurd h h4)
      split at hu
      ·cases hu;cases h0
      ·split at hu
       ·rename_i hx;cases hu;exact absurd h0 hx
       ·cases hu
        omega
 clear hv h1 h2 hu
 by_cases c0:e0=0
 case neg =>
  have q1:(e0 !=0)=true:=by simpa using c0
  rw[if_pos c0]at hr
  obtain⟨rfl,rfl,rfl,rfl⟩:0=n∧[]=r∧0=g∧e0=e:=by simpa using hr
  clear hr hplace
  go_enter Tryz.func144,Tryz.ntmps144
  go_wp2_with fail
  refine HU.out.mono ?_
  rintro z w1 ⟨rfl,n1⟩
  have N1:=zH n1
  clear n1
  go_wp2
  refine bodyPost_ret (v:=.tuple #[.int .i64 0,.slice none 0 0,.int .i64 0,.int .i64 e0]) (by simp[results,Tryz.results144,go_sem]) rfl ⟨_,rfl,Vec.nil,N1.out,fun g hg=>by cases hg⟩
 subst c0
 rw[if_neg (by simp)]at hr
 obtain⟨hp0,hp1⟩:=hplace rfl
 obtain⟨E,hE⟩:=zN (frs l x0 [])
 rw[hE]at hr
 obtain⟨E1,E2⟩:=E
 obtain⟨rfl,rfl,rfl,rfl⟩:n0=n∧E1=r∧E2=g∧0=e:=by simpa using hr
 obtain⟨i0,hi,hz0,hz1,hz2⟩:=info_parts infoEv
 have HI:=zH hi
 have HZ0:=zH hz0
 have HZ1:=zH hz1
 have HZ2:=zH hz2
 have HE:=zH hE
 have HX0:=zH (And.intro hp0 hp1)
 clear hi hz0 hz1 hz2 hr hplace hE hp0 hp1
 go_enter Tryz.func144,Tryz.ntmps144
 go_wp2_with fail
 refine HU.out.mono ?_
 rintro z w1 ⟨rfl,n1⟩
 have N1:=zH n1
 clear n1
 go_wp2
 go_loopw [7,9] (fun av s wr=>∃(at_:Int) (acc:List Ev) (m:Nat),av=.int .i64 at_∧0≤at_∧at_≤l.length∧frs l at_ acc=(E1,E2)∧Vec 5 wr s m (acc.flatMap evV)∧acc.length=m∧(m:Int)≤at_∧Nw w wr∧∀g,s.ownBlock=some g→w.heap.size≤g) (fun av _ _=>l.length-(intOf av).toNat)
 case atStart=>exact⟨x0,[],0,rfl,HX0.out.1,HX0.out.2,HE.out,Vec.nil,rfl,by simpa using HX0.out.1,N1.out,fun g hg=>by cases hg⟩
 case round =>
  obtain⟨at_,acc,m,rfl,ha0,ha1,hE1,hs,hm,hma,hw,hfr⟩:=hrel
  obtain⟨⟨r1,x1,e1⟩,hg⟩:=zN (readFr l at_)
  have C:=zH (ERead_ok (HV.out.nw hw) hl at_ ⟨by omega,by omega⟩ hg)
  have HG:=zH hg
  obtain⟨sa,sc,rfl,-⟩:=hs.len
  have HS:=zH (And.intro hs (And.intro hw hfr))
  have HE1:=zH hE1
  have HM:=zH hm
  clear hg hs hw hfr hE1 hm
  go_wp2_with fail
  refine C.out.mono ?_
  rintro z w2 ⟨v2,rfl,o2,n2⟩
  have N2:=zH n2
  by_cases hy:e1=0
  case neg =>
   have q1:(e1 !=0)=true:=by simpa using hy
   have r:=frs_no (b:=l) (at_:=at_) (by rw[HG.out];exact hy) acc
   rw[HE1.out]at r
   obtain⟨rfl,rfl⟩:E1=acc∧E2=at_:=by simpa using r
   clear r o2 n2 C
   go_wp2
   refine bodyPost_ret (v:=.tuple #[.int .i64 n0,.slice sa m sc,.int .i64 E2,.int .i64 0]) (by simp[results,Tryz.results144,go_sem]) rfl ⟨_,rfl,?_,HS.out.2.1.trans N2.out,HS.out.2.2⟩
   rw[HM.out]
   exact HS.out.1.nw N2.out
  subst hy
  have hfine:=readFr_fine (b:=l) (at_:=at_) (by rw[HG.out])
  have hlen:=readFr_len (b:=l) (at_:=at_) (by rw[HG.out])
  have hyes:=frs_yes' HG.out acc
  rw[HG.out]at hfine hlen
  simp only at hfine hlen
  rw[HE1.out]at hyes
  have O2:=zH (o2 rfl)
  have HY:=zH hyes
  obtain⟨m2,hm2⟩:=zN (r1.length)
  rw[hm2]at hlen
  have hb1:=hfine.2.1
  have hb2:=hfine.2.2.1
  have HM2:=zH hm2
  have hv2:=O2.out.1
  rw[hm2]at hv2
  obtain⟨ta,tc,rfl,-⟩:=hv2.len
  have V4:=zH (HS.out.1.nw N2.out)
  have X4:=zH hv2.src
  clear hm2 hfine hyes o2 n2 C hv2
  go_wp2_with (at_builtin;refine wpList_append_vec rfl _ _ 31 rfl 87 i0 (.agg #[.int .i64 0,.int .u8 0,.int .i64 0,.int .i64 0,.int .i64 0]) 5 40 Tryz.underlying31 HI.out HZ0.out HZ1.out HZ2.out rfl (by decide) rfl rfl V4.out X4.out ?c1 ?c2 ?c3 ?_)
  case c1=>exact evV_one r1
  case c2=>unfold maxLen;omega
  case c3=>omega
  intro v5 w5 q5 q6 q7
  obtain⟨ya,yc,rfl,-⟩:=q5.len
  have Q:=zH (And.intro q5 (And.intro q6 q7))
  clear q5 q6 q7
  go_wp2
  go_roundw
  case rel =>
   refine⟨x1,acc++r1,m+m2,rfl,by omega,hb2,HY.out.symm,by rw[List.flatMap_append];exact Q.out.1,by rw[List.length_append,HM.out,HM2.out],by omega,?_,fun g hg=>?_⟩
   ·exact (HS.out.2.1.trans N2.out).trans' Q.out.2.1 (fun g hg hc=>by have:=HS.out.2.2 g hc;omega)
   ·rcases Q.out.2.2 with h|h
    ·exact HS.out.2.2 g (h▸hg)
    ·have h1:=h g hg
     have h2:=(HS.out.2.1.trans N2.out).size
     omega
  case measure=>simp[intOf];omega
end Go.Proofs.YtkbenkldfehhlaaGreatDoor
