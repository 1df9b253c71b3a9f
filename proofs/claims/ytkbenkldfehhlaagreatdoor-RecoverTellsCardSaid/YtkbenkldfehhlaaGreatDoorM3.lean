/-
  Texts merged by a program of this claim's: DiskC, DiskD, DiskE, DiskF, DiskG, DiskH.
-/
import Derived.Test.YtkbenkldfehhlaaGreatDoorM2
import Derived.Test.YtkbenkldfehhlaaGreatDoorShelfS
import Derived.StringKeys
import Derived.Sort.OwnSorted
import Derived.Sort.KeysCollected
import Derived.Maps.RangeWalk
import Derived.Lib.SliceRun
namespace Go.Proofs.YtkbenkldfehhlaaGreatDoor
open Go Go.RowKit
set_option maxRecDepth 100000
set_option maxHeartbeats 400000
def cutset:List UInt8:=[97,98,99,100,101,102,103,104,105,106,107,108,109,110,111,112,113,114,115,116,117,118,119,120,121,122,48,49,50,51,52,53,54,55,56,57,46,45]
theorem cut_char (c:UInt8):cutset.contains c=okChar c:=by
 have h:∀i:Fin 256,cutset.contains (UInt8.ofFin i)=okChar (UInt8.ofFin i):=by decide +kernel
 exact h c.toFin
theorem dropWhile_nil {p:UInt8→Bool}:∀l:List UInt8,l.dropWhile p=[]↔l.all p=true
 |[]=>by simp
 |a::l=>by
  by_cases h:p a=true
  ·simp[h,dropWhile_nil l]
  ·simp[h]
theorem trim_nil (l:List UInt8):(Lib.trimS l cutset).isEmpty=l.all okChar:=by
 have e:∀l,Lib.trimS l cutset=(l.reverse.dropWhile okChar).reverse.dropWhile okChar:=fun l=>by
  simp only[Lib.trimS,Lib.trimLeftS,Lib.trimRightS,cut_char]
 rw[e,Bool.eq_iff_iff,List.isEmpty_iff,dropWhile_nil]
 constructor
 ·intro h
  have h':(l.reverse.dropWhile okChar).reverse.all okChar=true:=h
  rw[List.all_reverse]at h'
  have hn:l.reverse.dropWhile okChar=[]:=by
   cases hc:l.reverse.dropWhile okChar with
   |nil=>rfl
   |cons a t =>
    have h1:okChar a=true:=by rw[hc]at h';simp only[List.all_cons,Bool.and_eq_true]at h';exact h'.1
    have h2:=List.head?_dropWhile_not okChar l.reverse
    rw[hc]at h2
    simp[h1]at h2
  rw[dropWhile_nil,List.all_reverse]at hn
  exact hn
 ·intro h
  have hn:l.reverse.dropWhile okChar=[]:=by rw[dropWhile_nil,List.all_reverse];exact h
  rw[hn];rfl
theorem trim_calls (n:Str) (w:World) (hn:n.length≤9223372036854775807) :
  Calls Tryz.prog 135 #[.string ⟨n.toArray⟩,.string ⟨cutset.toArray⟩] w fun e w'=>e=.returned (.string ⟨(Lib.trimS n cutset).toArray⟩)∧Nw w w':=by
 have h:=Any.strings_Trim_laid Tryz.lays160 (by kernel_rfl) (⟨n.toArray⟩:ByteArray) (⟨cutset.toArray⟩:ByteArray) w (by show n.toArray.size≤_;simpa using hn) (by decide) (ascii_of_all (by decide))
 refine h.mono ?_
 rintro e w' ⟨he,hb⟩
 exact⟨by simpa using he,Nw.of_below hb⟩
theorem right_calls (n:Str) (w:World) (hn:n.length≤9223372036854775807) :
  Calls Tryz.prog 86 #[.string ⟨n.toArray⟩] w fun e w'=>e=.returned (.bool (okName n))∧Nw w w':=by
 have ht:=zH (trim_calls n w hn)
 have hc:=zH (trim_nil n)
 by_cases h0:n=[]
 ·subst h0
  go_enter Tryz.func86,Tryz.ntmps86
  go_wp2
  go_ret
  exact⟨rfl,Nw.refl _⟩
 ·have hne:n.isEmpty=false:=by simpa using h0
  by_cases h1:n.length≤40
  ·have hR:Hid (okName n=n.all okChar):=by show okName n=_;simp[okName,hne,h1]
   go_enter Tryz.func86,Tryz.ntmps86
   go_wp2_with (refine ht.out.mono ?_)
   rintro e w1 ⟨rfl,hw⟩
   have hc':=hc.out
   go_wp2
   go_ret
   exact⟨by rw[hR.out];rfl,hw⟩
  ·have hR:Hid (okName n=false):=by show okName n=_;simp[okName,h1]
   have h1':40<n.length:=by omega
   go_enter Tryz.func86,Tryz.ntmps86
   go_wp2
   go_ret
   exact⟨by rw[hR.out];rfl,Nw.refl _⟩
open Go.Sort
abbrev Ss (w:World) (v:Value) (l:List Str):Prop:=Rd encStr w v l
theorem Rd.of_owns {α:Type}{f:α→Value}{w:World}{base e:Nat}{v:Value}{l:List α}(h:w.ownsRow base e 1 v l.length (l.map f)):Rd f w v l:=by
 obtain⟨-,⟨rfl,h0⟩|⟨g,cap,cur,rfl,hb,h1,h2,h3,h4,h5⟩⟩:=h
 ·exact .inl ⟨none,by simp,List.eq_nil_of_length_eq_zero h0⟩
 ·refine .inr ⟨g,0,cap,rfl,h2,h3,lt_of_block h1,fun i hi=>?_⟩
  have e:cur.toList[i]? = (l.map f)[i]?:=by rw[←h5,Nat.mul_one];simp[hi]
  have e':cur[i]? = some (f l[i]):=by
   have:cur.toList[i]? = cur[i]?:=by simp
   rw[←this,e];simp[hi]
  simp[World.cell?,h1,e']
theorem one_news {w:World}{x:Value}{t:TypeId}:∀(j:Nat) (u:Value),[x][j]? = some u→(w.alloc (.cells #[x] t)).cell? ((⟨w.heap.size,0,none⟩:Addr).add j)=some u:=by
 intro j u h
 cases j with
 |zero=>simp at h;subst h;simp[Addr.add]
 |succ j=>simp at h
theorem one_cell {x:Value}(h:x.oneCell'=true):∀u∈[x],u.oneCell'=true:=by
 intro u hu;simp at hu;subst hu;exact h
theorem sort_strs {B:Nat}(w:World) (v:Value) (ss:List Str) (h:w.ownsRow B 9 1 v ss.length (ss.map encStr)) (hl:ss.length<4611686018427387904) :
  Calls Tryz.prog 92 #[v] w fun e w'=>e=.returned (.tuple #[])∧w'.ownsRow B 9 1 v ss.length ((ss.mergeSort fun x y=>decide (x≤y)).map encStr)∧Only (fun k=>v.ownBlock=some k) w w':=by
 obtain⟨h0,⟨rfl,hn⟩|⟨g,cap,cur,rfl,hb,h1,h2,h3,h4,h5⟩⟩:=h
 ·have:ss=[]:=List.eq_nil_of_length_eq_zero hn
  subst this
  refine (Tryz.slices_Sort_string_none none 0 w).mono ?_
  rintro e w' ⟨he,rfl⟩
  exact⟨he,by simp[World.ownsRow],Only.refl _⟩
 ·rw[Nat.mul_one]at h5
  refine (Tryz.slices_Sort_string g 0 cap ss w (holds_of_block h1 h5) (lt_of_block h1) hl).mono ?_
  rintro e w' ⟨he,n,os,rfl⟩
  refine⟨he,ownsRow_sorted (by simp) hb h1 h2 h3 h4,?_⟩
  exact (Only.refl w).grown (grownBy_sorted _) (fun k hk _=>by simpa [Value.ownBlock] using hk)
theorem perm_filter_born {e:En}:∀{l:List En},(l.map En.born).Nodup→e∈l→l.Perm (e::l.filter fun x=>!(x.born==e.born)):=by
 intro l
 induction l with
 |nil=>intro _ h;cases h
 |cons a l ih =>
  intro hn he
  simp only[List.map_cons,List.nodup_cons]at hn
  by_cases hae:a.born=e.born
  ·have hnot:∀x∈l,¬ x.born=e.born:=fun x hx hc=>hn.1 (by rw[hae,←hc];exact List.mem_map_of_mem hx)
   have hea:e=a:=by
    rcases List.mem_cons.1 he with h|h
    ·exact h
    ·exact absurd rfl (hnot e h)
   subst hea
   have hf:l.filter (fun x=>!(x.born==e.born))=l:=List.filter_eq_self.2 (fun x hx=>by simpa using hnot x hx)
   simp[hf]
  ·have hel:e∈l:=by
    rcases List.mem_cons.1 he with h|h
    ·exact absurd (by rw[h]) hae
    ·exact h
   have:=ih hn.2 hel
   rw[List.filter_cons,if_pos (by simpa using hae)]
   exact (List.Perm.cons a this).trans (List.Perm.swap e a _)
theorem leftEn_push (L:List En) (seen:Array Nat) (b:Nat):leftEn L (seen.push b)=(leftEn L seen).filter fun x=>!(x.born==b):=by
 simp only[leftEn,List.filter_filter]
 congr 1
 funext x
 rw[Array.contains_push,Bool.not_or,Bool.and_comm]
structure Met (L:List En) (seen:Array Nat) (D:List En):Prop where
 born:(L.map En.born).Nodup
 perm:(D++leftEn L seen).Perm L
theorem Met.start {L:List En}(h:(L.map En.born).Nodup):Met L #[] []:=⟨h,by rw[show leftEn L #[]=L from List.filter_eq_self.2 (by simp)];exact List.Perm.refl _⟩
theorem Met.step {L D:List En}{seen:Array Nat}(h:Met L seen D){e:En}(he:e∈leftEn L seen):Met L (seen.push e.born) (D++[e])∧(leftEn L (seen.push e.born)).length<(leftEn L seen).length:=by
 have hn:((leftEn L seen).map En.born).Nodup:=List.Nodup.sublist (List.Sublist.map _ List.filter_sublist) h.born
 have hp:=perm_filter_born hn he
 rw[←leftEn_push]at hp
 refine⟨⟨h.born,?_⟩,?_⟩
 ·rw[List.append_assoc]
  exact (List.Perm.append_left D hp.symm).trans h.perm
 ·have:=hp.length_eq
  simp at this;omega
theorem Met.done {L D:List En}{seen:Array Nat}(h:Met L seen D) (hl:leftEn L seen=[]):D.Perm L:=by
 have:=h.perm;rw[hl,List.append_nil]at this;exact this
section
variable {P:Program}{w:World}{m clock:Nat}{L:List En}
theorem run_entry_en {r since:Nat}{seen:Array Nat}{e:En}(hr:w.heap[r]? = some (.mapIter (some m) since (seen.push e.born) clock)) (hb:w.heap[m]? = some (.map (ents L) clock)) (he:e∈L) (hn:(L.map En.born).Nodup) :
  (Instr.entry (.pointer (some ⟨r,0,none⟩))).run P w=.ok (.tuple #[.string ⟨e.key.toArray⟩,e.val]) w:=by
 have hf:(ents L).find? (·.born==e.born)=some e.entry:=by
  rw[←Array.find?_toList]
  exact find_born e.entry _ (by simpa [ents,List.map_map,Function.comp_def,En.entry] using hn) (by simp only[ents];exact List.mem_map_of_mem he)
 simp only[Instr.entry,getObj,Sem.run_bind,Sem.run,hr,hb,Result.andThen,Array.back?_push,bne_self_eq_false,Bool.false_eq_true,if_false,hf]
 rfl
theorem wpList_next_en {ops:Array Oper}{rest:List Oper}{o:Oper}{a:Act}{Q:Exit→Act→World→Prop}(hg:o.guard=none) (it:Operand) (hop:o.op=Op.next it false)
  {r:Nat}{seen:Array Nat}{D:List En}(hit:a.eval it=.pointer (some ⟨r,0,none⟩)) (hr:w.heap[r]? = some (.mapIter (some m) clock seen clock)) (hb:w.heap[m]? = some (.map (ents L) clock))
  (hold:∀e∈L,e.born<clock) (hm:Met L seen D) (hrm:r≠m)
  (hDone:D.Perm L→wpList P ops Q rest (a.put o.dst (.tuple #[.bool false])) w)
  (hMore:∀(e:En) (seen':Array Nat) (w1:World),e∈L→Met L seen' (D++[e])→(leftEn L seen').length<(leftEn L seen).length→w1.heap[r]? = some (.mapIter (some m) clock seen' clock)→w1.heap[m]? = some (.map (ents L) clock) →
   Only (fun k=>k=r) w w1→w1.heap.size=w.heap.size→(Instr.entry (.pointer (some ⟨r,0,none⟩))).run P w1=.ok (.tuple #[.string ⟨e.key.toArray⟩,e.val]) w1 →
   wpList P ops Q rest (a.put o.dst (.tuple #[.bool true,.string ⟨e.key.toArray⟩,e.val])) w1) :
  wpList P ops Q (o::rest) a w:=by
 refine wpList_plain hg fun K' hK'=>?_
 unfold Oper.wp
 rcases run_next_en (P:=P) o.type hr hb hold (Nat.le_refl _) with ⟨h0,hrun⟩|⟨e,he,w1,hw1,hrun⟩
 ·simp[execOp,hop,hit,hrun,Result.andThen]
  exact hK' _ _ (hDone (hm.done h0))
 ·simp[execOp,hop,hit,hrun,Result.andThen]
  obtain⟨hm',hlt⟩:=hm.step he
  have heL:e∈L:=(List.mem_filter.1 he).1
  have hr1:w1.heap[r]? = some (.mapIter (some m) clock seen clock):=by rcases hw1 with rfl|rfl <;> exact hr
  have hb1:w1.heap[m]? = some (.map (ents L) clock):=by rcases hw1 with rfl|rfl <;> exact hb
  have hr2:=setBlk_same (o':=.mapIter (some m) clock (seen.push e.born) clock) hr1
  have hb2:(World.setBlk w1 r (.mapIter (some m) clock (seen.push e.born) clock)).heap[m]? = some (.map (ents L) clock):=by rw[setBlk_other (Ne.symm hrm)];exact hb1
  refine hK' _ _ (hMore e (seen.push e.born) _ heL hm' hlt hr2 hb2 ?_ ?_ (run_entry_en hr2 hb2 heL hm.born))
  ·refine Only.setBlk (S:=fun k=>k=r) ?_ (fun _=>rfl) _
   rcases hw1 with rfl|rfl
   ·exact Only.refl _
   ·exact (Only.refl _).drew
  ·rw[setBlk_size];rcases hw1 with rfl|rfl <;> rfl
end
theorem Tryz.infoStr:(Tryz.prog.info? 9).map (fun i=>(i.zero,i.size,i.bytes))=some (some (.string ⟨#[]⟩),1,16):=by kernel_rfl
def ListPost (w:World) (l:List Str) (e:Ending) (w':World):Prop:=∃v,e=.returned v∧Ss w' v l∧Nw w w'∧∀g,v.ownBlock=some g→w.heap.size≤g
def ListRel (w:World) (m clock:Nat) (L:List En) (v:Value) (wr:World):Prop:=∃seen D,wr.heap[w.heap.size]? = some (.mapIter (some m) clock seen clock)∧wr.heap[m]? = some (.map (ents L) clock)∧Met L seen D ∧
 wr.ownsRow w.heap.size 9 1 v (D.map En.key).length ((D.map En.key).map encStr)∧Nw w wr∧v.ownBlock≠some w.heap.size∧D.length≤L.length
theorem List_ok {w:World}{b:Nat}{d:Dsk}{S:Nat→Prop}(h:DiskIn w b d S) :
  Calls Tryz.prog 43 #[.pointer (some ⟨b,0,none⟩)] w (ListPost w d.list):=by
 obtain⟨m,fs,hD,-⟩:=h
 obtain⟨c0,c1,c2,c3,-⟩:=hdr_cells hD.hdr
 obtain⟨clock,hmap,hborn⟩:=hD.map
 have hok:=hD.ok
 have hfl:d.files.length=fs.length:=by rw[hD.files];simp
 have hml:m<w.heap.size:=lt_of_block hmap
 have hold:∀e∈fs.map FE.en,e.born<clock:=fun e he=>by
  obtain⟨f,hf,rfl⟩:=List.mem_map.1 he
  exact hborn f hf
 have hmet:=Met.start (L:=fs.map FE.en) (by simpa [List.map_map,Function.comp_def,FE.en] using hD.born)
 have hlist:d.list=((fs.map FE.en).map En.key).mergeSort fun x y=>decide (x≤y):=by
  simp[Dsk.list,hD.files,namesF,List.map_map,Function.comp_def,FE.nf,FE.en]
 have hfew:fs.length≤200:=by rw[←hfl];exact hok.few
 rw[hlist]
 have HL:=zH hfew
 generalize hE:fs.map FE.en=L at *
 have hLl:L.length≤200:=by rw[←hE];simpa using hfew
 clear hD hok hfl hborn hlist hfew HL hE c1 c2 c3
 obtain⟨i0,hi,hz0,hz1,hz2⟩:=info_parts Tryz.infoStr
 have hrange:=run_range_en (P:=Tryz.prog) Tryz.underlying106 hmap
 have HM:=zH hmap;clear hmap
 have HO:=zH hold
 have HT:=zH hmet
 clear hold hmet
 go_enter Tryz.func43,Tryz.ntmps43
 go_wp2_with (go_at_call 55;refine (none_ok _ b m c0).mono ?_;rintro e w' ⟨rfl,rfl⟩)
 go_loopw [3] (fun v wr=>ListRel w m clock L v wr) (fun _ wr=>(leftEn L (World.iterSeen wr w.heap.size)).length)
 case atStart =>
  refine⟨#[],[],heap_alloc_new _ _,?_,HT.out,World.ownsRow_nil _ _ _ _,(Nw.refl w).alloc _,by simp[Value.ownBlock],Nat.zero_le _⟩
  rw[heap_alloc_old _ _ hml];exact HM.out
 case round =>
  obtain⟨seen,D,hr,hb,hm,hown,hnw,hne,hDl⟩:=hrel
  have hrm:w.heap.size≠m:=by omega
  go_wp2_with (at_next;refine wpList_next_en rfl _ rfl rfl hr hb HO.out hm hrm ?_ ?_)
  ·intro hperm
   have hlen:(D.map En.key).length<4611686018427387904:=by simp;omega
   have hkeys:((D.map En.key).mergeSort fun x y=>decide (x≤y))=((L.map En.key).mergeSort fun x y=>decide (x≤y)):=Go.mergeSort_of_perm (hperm.map En.key)
   have hsort:=zH (sort_strs wr u3 (D.map En.key) hown hlen)
   have HK:=zH hkeys
   have HB:=zH (hown.lt)
   clear hkeys hown hm hr hb hne hlen hperm
   go_wp2_with (go_at_call 92;refine hsort.out.mono ?_;rintro e w2 ⟨rfl,hown2,ho2⟩)
   go_ret
   have hnw2:Nw w w2:=hnw.trans' ho2 (fun k hk e=>by have:=HB.out k e;omega)
   rw[HK.out]at hown2
   have hl:(D.map En.key).length=((L.map En.key).mergeSort fun x y=>decide (x≤y)).length:=by rw[←HK.out];simp
   rw[hl]at hown2
   exact⟨_,rfl,Rd.of_owns hown2,hnw2,fun g hg=>(HB.out g hg).1⟩
  ·intro e seen' w1 heL hm' hlt hr1 hb1 ho1 hs1 hen
   have hown1:w1.ownsRow w.heap.size 9 1 u3 (D.map En.key).length ((D.map En.key).map encStr):=hown.kept (row:=some w.heap.size) ⟨ho1.os,ho1.tape,ho1.output,ho1.size,fun k hk hn=>ho1.block k hk (fun e=>hn (by rw[e]))⟩ (.inr hne)
   have hsz:w.heap.size≤w1.heap.size:=by rw[hs1];exact hnw.size
   have hlen:(D.map En.key).length≤200:=by simp;have:(D++[e]).length≤L.length:=by { have:=hm'.perm.length_eq;simp at this ⊢;omega };simp at this;omega
   have HM1:=zH hm'
   have HR1:=zH hr1
   have HB1:=zH hb1
   have HS:=zH hs1
   have HLT:=zH hlt
   have HOW:=zH hown
   have HN1:Nw w w1:=hnw.trans' ho1 (fun k hk e=>by omega)
   have HE:=zH heL
   have HR:=zH hr
   clear hm' hr1 hb1 hs1 hlt hm hr hb hown heL ho1
   go_wp2_with (at_builtin;refine wpList_append_own _ rfl _ _ 90 rfl w.heap.size 9 i0 (.string ⟨#[]⟩) 1 16 Tryz.underlying90 hi hz0 hz1 hz2 rfl (by decide) _ _ _ rfl (hown1.alloc _) ⟨w1.heap.size,0,none⟩ 1 1 [.string ⟨e.key.toArray⟩] rfl rfl ?c1 ?c2 ?c3 ?c4 ?c5 ?_)
   case c1=>exact one_news
   case c2=>exact one_cell rfl
   case c3=>unfold maxLen;omega
   case c4=>omega
   case c5=>rw[World.size_alloc];omega
   intro v' w2 hown2 hgr hnil
   have HX:=zH hown2
   have HG:=zH hgr
   have HLN:=zH hlen
   clear hown2 hgr hnil hown1 hlen
   go_wp2
   go_roundw
   case rel =>
    have hn2:Nw w w2:=Only.grown (HN1.alloc _) HG.out (fun k hk hkl=>absurd hkl (by have:=(HOW.out.lt k hk).1;omega))
    have hr2:w2.heap[w.heap.size]? = some (.mapIter (some m) clock seen' clock):=by
     rw[HG.out.block _ (by rw[World.size_alloc,HS.out];have:=hnw.size;have h:=lt_of_block HR1.out;omega) (fun h=>hne h.symm),heap_alloc_old _ _ (lt_of_block HR1.out)]
     exact HR1.out
    refine⟨seen',D++[e],hr2,?_,HM1.out,?_,hn2,?_,?_⟩
    ·have hml1:m<w1.heap.size:=lt_of_block HB1.out
     rw[HG.out.block m (by rw[World.size_alloc];omega) (fun h=>by have:=(HOW.out.lt m h.symm).1;omega),heap_alloc_old _ _ hml1]
     exact HB1.out
    ·have hh:=HX.out
     simpa [List.map_append] using hh
    ·intro hc
     rcases HX.out.2 with ⟨hv,-⟩|⟨g,cap,cur,hv,-,hg,-⟩
     ·rw[hv]at hc;cases hc
     ·rw[hv]at hc
      have hgr:g=w.heap.size:=by simpa [Value.ownBlock] using hc
      rw[hgr,hr2]at hg;cases hg
    ·have:=HM1.out.perm.length_eq;simp at this ⊢;omega
   case measure =>
    have hr2:w2.heap[w.heap.size]? = some (.mapIter (some m) clock seen' clock):=by
     rw[HG.out.block _ (by rw[World.size_alloc,HS.out];have:=hnw.size;have h:=lt_of_block HR1.out;omega) (fun h=>hne h.symm),heap_alloc_old _ _ (lt_of_block HR1.out)]
     exact HR1.out
    have e1:World.iterSeen w2 w.heap.size=seen':=by simp[World.iterSeen,hr2]
    have e2:World.iterSeen wr w.heap.size=seen:=by simp[World.iterSeen,HR.out]
    rw[e1,e2];exact HLT.out
theorem split_name (n:Str):∀(L:List (Str×DFile)),n∉namesF L∨∃A f B,L=A++(n,f)::B∧n∉namesF A
 |[]=>.inl (by simp[namesF])
 |(k,g)::L=>by
  by_cases h:k=n
  ·subst h;exact .inr ⟨[],g,L,rfl,by simp[namesF]⟩
  ·rcases split_name n L with h1|⟨A,f,B,rfl,h3⟩
   ·exact .inl (by simp only[namesF,List.map_cons,List.mem_cons,not_or];exact⟨Ne.symm h,h1⟩)
   ·exact .inr ⟨(k,g)::A,f,B,rfl,by simp only[namesF,List.map_cons,List.mem_cons,not_or];exact⟨Ne.symm h,h3⟩⟩
theorem getF_mem {L:List (Str×DFile)}(hn:(namesF L).Nodup){n:Str}{f:DFile}(h:(n,f)∈L):getF L n=some f:=by
 obtain⟨A,B,rfl⟩:=List.append_of_mem h
 have:n∉namesF A:=by
  intro hc
  simp only[namesF,List.map_append,List.map_cons]at hn hc
  have:=(List.nodup_append.1 hn).2.2 n hc n (by simp)
  exact this rfl
 exact getF_hit this
theorem used_list {d:Dsk}(ok:d.Ok):(d.list.map fun n=>(fileOf d.files n).bytes.length).sum=usedF d.files:=by
 have hp:d.list.Perm (namesF d.files):=List.mergeSort_perm _ _
 rw[(hp.map _).sum_nat]
 unfold usedF namesF
 rw[List.map_map]
 congr 1
 apply List.map_congr_left
 intro x hx
 simp[fileOf,getF_mem ok.names (show (x.1,x.2)∈d.files from hx)]
theorem ptrOf_spec {w:World}{b m:Nat}{d:Dsk}{fs:List FE}(h:DiskAt w b m d fs) (n:Str) :
  (n∉namesF d.files∧ptrOf fs n=none∧getF d.files n=none) ∨
  ∃A f B,fs=A++f::B∧f.name=n∧n∉A.map FE.name∧ptrOf fs n=some ⟨f.fb,0,none⟩∧n∈namesF d.files∧getF d.files n=some f.file:=by
 have key:∀(fs:List FE),(n∉namesF (fs.map FE.nf)∧ptrOf fs n=none∧getF (fs.map FE.nf) n=none) ∨
  ∃A f B,fs=A++f::B∧f.name=n∧n∉A.map FE.name∧ptrOf fs n=some ⟨f.fb,0,none⟩∧n∈namesF (fs.map FE.nf)∧getF (fs.map FE.nf) n=some f.file:=by
  intro fs
  induction fs with
  |nil=>exact .inl ⟨by simp[namesF],rfl,rfl⟩
  |cons a fs ih =>
   by_cases ha:a.name=n
   ·exact .inr ⟨[],a,fs,rfl,ha,by simp,by simp[ptrOf,ha],by simp[namesF,FE.nf,ha],by simp[getF,FE.nf,ha]⟩
   ·rcases ih with ⟨h1,h2,h3⟩|⟨A,f,B,rfl,h2,h3,h4,h5,h6⟩
    ·refine .inl ⟨?_,?_,?_⟩
     ·simp only[namesF,List.map_cons,List.mem_cons,not_or,FE.nf]at h1 ⊢;exact⟨Ne.symm ha,h1⟩
     ·simpa [ptrOf,List.find?_cons,ha] using h2
     ·simpa [getF,FE.nf,ha] using h3
    ·refine .inr ⟨a::A,f,B,rfl,h2,by simp only[List.map_cons,List.mem_cons,not_or];exact⟨Ne.symm ha,h3⟩,?_,?_,?_⟩
     ·simpa [ptrOf,List.find?_cons,ha] using h4
     ·simp only[List.map_cons,namesF,List.mem_cons]at h5 ⊢;exact .inr h5
     ·simpa [getF,FE.nf,ha] using h6
 rw[h.files]
 exact key fs
theorem there_calls {w:World}{b:Nat}{d:Dsk}{S:Nat→Prop}(h:DiskIn w b d S) (n:Str) :
  Calls Tryz.prog 102 #[.pointer (some ⟨b,0,none⟩),.string ⟨n.toArray⟩] w fun e w'=>e=.returned (.int .i64 (d.there n))∧w=w':=by
 obtain⟨m,fs,hD,-⟩:=h
 obtain⟨c0,-⟩:=hdr_cells hD.hdr
 obtain⟨clock,hmap,-⟩:=hD.map
 have hl:=look_file hmap n
 rcases ptrOf_spec hD n with ⟨hn,hp,-⟩|⟨A,f,B,-,-,-,hp,hn,-⟩
 ·have r:Hid (d.there n=13):=by show d.there n=13;simp[Dsk.there,hn]
  rw[hp]at hl
  clear hmap hD hn hp
  go_enter Tryz.func102,Tryz.ntmps102
  go_wp2
  go_ret
  exact⟨by rw[r.out];rfl,rfl⟩
 ·have r:Hid (d.there n=0):=by show d.there n=0;simp[Dsk.there,hn]
  rw[hp]at hl
  clear hmap hD hn hp
  go_enter Tryz.func102,Tryz.ntmps102
  go_wp2
  go_ret
  exact⟨by rw[r.out];rfl,rfl⟩
def OfPost (w:World) (f:DFile) (S:Nat→Prop) (e:Ending) (w':World):Prop:=
 ∃sl,e=.returned (.agg #[sl,.int .i64 f.synced])∧Own w sl f.bytes∧(∀g,sl.ownBlock=some g→S g)∧Nw w w'
theorem of_ok {w:World}{b:Nat}{d:Dsk}{S:Nat→Prop}(h:DiskIn w b d S) (n:Str) :
  Calls Tryz.prog 91 #[.pointer (some ⟨b,0,none⟩),.string ⟨n.toArray⟩] w (OfPost w (fileOf d.files n) S):=by
 obtain⟨m,fs,hD,hS⟩:=h
 obtain⟨c0,-⟩:=hdr_cells hD.hdr
 obtain⟨clock,hmap,-⟩:=hD.map
 have hl:=look_file hmap n
 have hbl:b<w.heap.size:=lt_of_block hD.hdr
 rcases ptrOf_spec hD n with ⟨hn,hp,hg⟩|⟨A,f,B,hfs,-,-,hp,hn,hg⟩
 ·have r:Hid (fileOf d.files n=⟨[],0⟩):=by show fileOf d.files n=_;simp[fileOf,hg]
  rw[hp]at hl
  have hl1:(Instr.lookup 106 (.map (some m)) (.string ⟨n.toArray⟩) false).run Tryz.prog (w.alloc (.cells #[.slice none 0 0,.int .i64 0] 132))=.ok (.pointer none) (w.alloc (.cells #[.slice none 0 0,.int .i64 0] 132)):=by
   rw[←hp];exact look_file (by rw[heap_alloc_old _ _ (lt_of_block hmap)];exact hmap) n
  clear hmap hD hn hp hg
  go_enter Tryz.func91,Tryz.ntmps91
  go_wp2_with (go_at_call 55;refine (none_ok _ b m (by go_simp)).mono ?_;rintro e w' ⟨rfl,rfl⟩)
  refine bodyPost_ret (v:=.agg #[.slice none 0 0,.int .i64 0]) (by simp[results,Tryz.results91,go_sem]) rfl ⟨_,by rw[r.out];rfl,by rw[r.out];exact .inl ⟨rfl,rfl⟩,by simp[Value.ownBlock],(Nw.refl w).alloc _⟩
 ·have r:Hid (fileOf d.files n=f.file):=by show fileOf d.files n=_;simp[fileOf,hg]
  have hfm:f∈fs:=by rw[hfs];simp
  have hf:=hD.file f hfm
  have f0:w.cell? ⟨f.fb,0,none⟩=some f.sl:=by simp[World.cell?,hf.blk]
  have f1:w.cell? ⟨f.fb,1,none⟩=some (.int .i64 f.file.synced):=by simp[World.cell?,hf.blk]
  have hfl:f.fb<w.heap.size:=lt_of_block hf.blk
  have hS':∀g,f.sl.ownBlock=some g→S g:=fun g hg=>(hS g).2 (by
   simp only[dskBlocks,List.mem_cons,List.mem_flatMap]
   exact .inr (.inr ⟨f,hfm,by simp[FE.blocks,hg]⟩))
  obtain⟨sa,sc,hsl,-⟩:=hf.own.rd.len
  have HO:=zH hf.own
  have HS:=zH hS'
  rw[hsl]at f0
  have HSL:=zH hsl
  rw[hp]at hl
  have hl1:(Instr.lookup 106 (.map (some m)) (.string ⟨n.toArray⟩) false).run Tryz.prog (w.alloc (.cells #[.slice none 0 0,.int .i64 0] 132))=.ok (.pointer (some ⟨f.fb,0,none⟩)) (w.alloc (.cells #[.slice none 0 0,.int .i64 0] 132)):=by
   rw[←hp];exact look_file (by rw[heap_alloc_old _ _ (lt_of_block hmap)];exact hmap) n
  clear hmap hD hn hp hg hS' hf hfs hS hfm hsl
  go_enter Tryz.func91,Tryz.ntmps91
  go_wp2_with (go_at_call 55;refine (none_ok _ b m (by go_simp)).mono ?_;rintro e w' ⟨rfl,rfl⟩)
  refine bodyPost_ret (v:=.agg #[.slice sa f.file.bytes.length sc,.int .i64 f.file.synced]) (by simp[results,Tryz.results91,go_sem]) rfl ⟨f.sl,by rw[r.out,HSL.out],by rw[r.out];exact HO.out,HS.out,(Nw.refl w).alloc _⟩
theorem fieldBytes (w:World) (a:Option Addr) (n c:Nat) (k:Int):(Instr.field 132 (.agg #[.slice a n c,.int .i64 k]) 0).run Tryz.prog w=.ok (.slice a n c) w:=by kernel_rfl
theorem fieldSynced (w:World) (a:Option Addr) (n c:Nat) (k:Int):(Instr.field 132 (.agg #[.slice a n c,.int .i64 k]) 1).run Tryz.prog w=.ok (.int .i64 k) w:=by kernel_rfl
theorem Size_ok {w:World}{b:Nat}{d:Dsk}{S:Nat→Prop}(h:DiskIn w b d S) (n:Str) :
  Calls Tryz.prog 41 #[.pointer (some ⟨b,0,none⟩),.string ⟨n.toArray⟩] w fun e w'=>e=.returned (.int .i64 (fileOf d.files n).bytes.length)∧Nw w w':=by
 have H:=zH (of_ok h n)
 clear h
 go_enter Tryz.func41,Tryz.ntmps41
 go_wp2_with (go_at_call 91;refine H.out.mono ?_)
 rintro e w1 ⟨sl,rfl,ho,-,hw⟩
 obtain⟨a,cap,hsl,-⟩:=ho.rd.len
 subst hsl
 have q:=fieldBytes w1 a (fileOf d.files n).bytes.length cap (fileOf d.files n).synced
 clear ho
 go_wp2
 go_ret
 exact⟨rfl,hw⟩
theorem Synced_ok {w:World}{b:Nat}{d:Dsk}{S:Nat→Prop}(h:DiskIn w b d S) (n:Str) :
  Calls Tryz.prog 52 #[.pointer (some ⟨b,0,none⟩),.string ⟨n.toArray⟩] w fun e w'=>e=.returned (.int .i64 (fileOf d.files n).synced)∧Nw w w':=by
 have H:=zH (of_ok h n)
 clear h
 go_enter Tryz.func52,Tryz.ntmps52
 go_wp2_with (go_at_call 91;refine H.out.mono ?_)
 rintro e w1 ⟨sl,rfl,ho,-,hw⟩
 obtain⟨a,cap,hsl,-⟩:=ho.rd.len
 subst hsl
 have q:=fieldSynced w1 a (fileOf d.files n).bytes.length cap (fileOf d.files n).synced
 clear ho
 go_wp2
 go_ret
 exact⟨rfl,hw⟩
def sizeOfN (d:Dsk) (n:Str):Nat:=(fileOf d.files n).bytes.length
theorem mem_le_sum (l:List Nat):∀k,(l.take k).sum≤l.sum:=by
 intro k
 have:=List.sum_append (l₁:=l.take k) (l₂:=l.drop k)
 rw[List.take_append_drop]at this
 omega
def sumTo (d:Dsk) (l:List Str) (k:Nat):Nat:=((l.take k).map (sizeOfN d)).sum
theorem sumTo_succ (d:Dsk) (l:List Str) (k:Nat) (h:k<l.length):sumTo d l (k+1)=sumTo d l k+sizeOfN d l[k]:=by
 unfold sumTo
 rw[List.take_succ_eq_append_getElem h,List.map_append,List.sum_append];simp
theorem sumTo_le (d:Dsk) (l:List Str) (k:Nat):sumTo d l k≤(l.map (sizeOfN d)).sum:=by
 unfold sumTo;rw[List.map_take];exact mem_le_sum _ _
theorem Used_ok {w:World}{b:Nat}{d:Dsk}{S:Nat→Prop}(h:DiskIn w b d S) :
  Calls Tryz.prog 50 #[.pointer (some ⟨b,0,none⟩)] w fun e w'=>e=.returned (.int .i64 (usedF d.files))∧Nw w w':=by
 have hu:=used_list h.ok
 have hm:=h.ok.most1
 have hus:=h.ok.used
 have hbound:usedF d.files≤16777216:=by omega
 have hL:=zH (List_ok h)
 have HU:=zH hu
 have hlen:d.list.length≤200:=by
  have:=h.ok.few
  have hp:d.list.Perm (namesF d.files):=List.mergeSort_perm _ _
  rw[hp.length_eq];simpa [namesF] using this
 have H:=zH h
 clear h hu hm hus
 go_enter Tryz.func50,Tryz.ntmps50
 go_wp2_with (go_at_call 43;refine hL.out.mono ?_)
 rintro e w1 ⟨v,rfl,hss,hw1,hfresh⟩
 generalize hl:d.list=l at *
 have HL2:=zH hl;clear hl
 obtain⟨sa,cap,rfl,h1,h2,hel⟩:=hss.elems
 have HE:=zH hel
 have HD1:=zH (H.out.nw hw1)
 clear hss hel
 go_wp2
 go_loopw [3,9] (fun n i wr=>∃k:Nat,k≤l.length∧i=.int .i64 k∧n=.int .i64 (sumTo d l k)∧Nw w1 wr) (fun _ i _=>l.length-(intOf i).toNat)
 case atStart=>exact⟨0,Nat.zero_le _,rfl,rfl,Nw.refl _⟩
 case round =>
  obtain⟨k,hk,rfl,rfl,hwr⟩:=hrel
  by_cases hlt:k<l.length
  ·obtain⟨g,o,rfl,hg,hc⟩:=HE.out k hlt
   have hc':=hwr.cell hc
   have hs:=zH (Size_ok (HD1.out.nw hwr) l[k])
   have e2:(l.map (sizeOfN d)).sum=usedF d.files:=by rw[←HU.out];rfl
   have e1:=sumTo_le d l (k+1)
   have e3:=sumTo_succ d l k hlt
   rw[e2,e3]at e1
   have hb1:sumTo d l k+sizeOfN d l[k]≤16777216:=Nat.le_trans e1 hbound
   clear e2 e1
   have hb0:(fileOf d.files l[k]).bytes.length=sizeOfN d l[k]:=rfl
   have HB0:=zH hb0
   have HE3:=zH e3
   clear hb0 hc e3
   go_wp2_with (go_at_call 41;refine hs.out.mono ?_;rw[HB0.out];rintro e w2 ⟨rfl,hw2⟩)
   go_roundw
   case rel=>exact⟨k+1,by omega,by go_num,by rw[HE3.out];go_num,hwr.trans hw2⟩
   case measure=>simp[intOf];omega
  ·have hkl:k=l.length:=by omega
   have e4:sumTo d l k=usedF d.files:=by unfold sumTo;rw[hkl,List.take_length,←HU.out];rfl
   have HE4:=zH e4
   clear e4 hkl
   go_wp2
   go_ret
   exact⟨ret1 (by rw[HE4.out]),hw1.trans hwr⟩
theorem Tryz.infoByte:(Tryz.prog.info? 5).map (fun i=>(i.zero,i.size,i.bytes))=some (some (.int .u8 0),1,1):=by kernel_rfl
def NewBytes (w:World) (l:List UInt8) (e:Ending) (w':World):Prop:=∃v,e=.returned v∧Own w' v l∧Nw w w'∧∀g,v.ownBlock=some g→w.heap.size≤g
theorem eqlSlice (w:World) (a:Option Addr) (n c:Nat):(binOp .eql 79 (.slice a n c) (.slice none 0 0)).run Tryz.prog w=.ok (.bool a.isNone) w:=
 Go.Lib.run_eql_slice_nil w _ _ a n c 0 0 Tryz.underlying79
theorem Clone_ok {w:World}{v:Value}{l:List UInt8}(h:Bs w v l) (hl:l.length≤140737488355328) :
  Calls Tryz.prog 103 #[v] w (NewBytes w l):=by
 obtain⟨i0,hi,hz0,hz1,hz2⟩:=info_parts Tryz.infoByte
 have HB:=zH h
 obtain⟨sa,cap,rfl,hcap,hmx,hn0⟩:∃sa cap,v=.slice sa l.length cap∧l.length≤cap∧cap≤maxLen∧(sa=none→l=[]∧cap=0):=by
  rcases h with ⟨a,rfl,rfl⟩|⟨g,o,cap,rfl,h1,h2,hg,h3⟩
  ·exact⟨a,0,rfl,by simp,by simp,fun _=>⟨rfl,rfl⟩⟩
  ·exact⟨_,cap,rfl,h1,h2,fun e=>by cases e⟩
 clear h
 cases sa
 case none =>
  obtain⟨rfl,rfl⟩:=hn0 rfl
  have q:=eqlSlice w none 0 0
  go_enter Tryz.func103,Tryz.ntmps103
  go_wp2
  go_ret
  exact⟨_,rfl,RowF.nil,Nw.refl _,fun g hg=>by cases hg⟩
 case some sa =>
  have q:=eqlSlice w (some sa) l.length cap
  clear hn0
  have hm:l.length≤maxLen:=Nat.le_trans hcap hmx
  unfold maxLen at hm hmx
  go_enter Tryz.func103,Tryz.ntmps103
  have hrow:RowF u8 5 (w.alloc (.cells #[] 5)) (.slice (some ⟨w.heap.size,0,none⟩) 0 0) []:=.inr ⟨w.heap.size,0,#[],rfl,heap_alloc_new w _,by simp,by simp,by simp,by simp⟩
  go_wp2_with (at_builtin;refine wpList_append_row u8_one rfl _ _ 79 rfl 5 i0 (.int .u8 0) 1 Tryz.underlying79 hi hz0 hz1 hz2 rfl rfl rfl hrow (HB.out.nw ((Nw.refl w).alloc _)) ?c1 ?c2 ?_)
  case c1=>simp only[List.length_nil,Nat.zero_add,maxLen];exact hm
  case c2=>simp only[List.length_nil,Nat.zero_add,Nat.mul_one];exact hl
  intro v' w' hr ho hf hn
  have HR:=zH hr
  have HO:=zH ho
  have HF:=zH hf
  clear hr ho hf hn
  go_wp2
  go_ret
  have hsz:(w.alloc (.cells #[] 5)).heap.size=w.heap.size+1:=by simp
  refine⟨v',rfl,HR.out,?_,fun g hg=>?_⟩
  ·exact ((Nw.refl w).alloc _).trans' HO.out (fun k hk e=>by simp only[Value.ownBlock,Option.some.injEq]at e;omega)
  ·rcases HF.out with hf|hf
   ·rw[hf]at hg;simp only[Value.ownBlock,Option.some.injEq]at hg;omega
   ·have:=hf g hg;omega
def ReadPost (w:World) (r:List UInt8×Int) (e:Ending) (w':World):Prop:=∃v,e=.returned (.tuple #[v,.int .i64 r.2])∧Own w' v r.1∧Nw w w'∧∀g,v.ownBlock=some g→w.heap.size≤g
theorem bytes_le {d:Dsk}(ok:d.Ok){n:Str}{f:DFile}(h:getF d.files n=some f):f.bytes.length≤16777216:=by
 have key:∀(L:List (Str×DFile)),getF L n=some f→f.bytes.length≤usedF L:=by
  intro L
  induction L with
  |nil=>intro h;cases h
  |cons x L ih =>
   obtain⟨k,g⟩:=x
   intro h
   simp only[getF]at h
   split at h
   ·cases h;simp[usedF]
   ·have:=ih h;simp only[usedF,List.map_cons,List.sum_cons]at this ⊢;omega
 have h1:=key _ h
 have h2:=ok.used
 have h3:=ok.most1
 omega
theorem Read_ok {w:World}{b:Nat}{d:Dsk}{S:Nat→Prop}(h:DiskIn w b d S) (n:Str) :
  Calls Tryz.prog 53 #[.pointer (some ⟨b,0,none⟩),.string ⟨n.toArray⟩] w (ReadPost w (d.read n)):=by
 have HH:=zH h
 obtain⟨m,fs,hD,hS⟩:=h
 obtain⟨c0,-,-,c3,-⟩:=hdr_cells hD.hdr
 obtain⟨clock,hmap,-⟩:=hD.map
 have hl:=look_file hmap n
 cases hdn:d.down
 case true =>
  have r:Hid (d.read n=([],15)):=by show d.read n=_;simp[Dsk.read,hdn]
  rw[hdn]at c3
  clear hmap hD hS hl hdn
  go_enter Tryz.func53,Tryz.ntmps53
  go_wp2_with (go_at_call 101;refine (up_ok _ b m true c0 c3).mono ?_;rintro e w' ⟨rfl,rfl⟩)
  go_ret2
  exact⟨_,by rw[r.out];rfl,by rw[r.out];exact RowF.nil,Nw.refl _,fun g hg=>by cases hg⟩
 case false =>
  rw[hdn]at c3
  rcases ptrOf_spec hD n with ⟨hn,hp,hg⟩|⟨A,f,B,hfs,-,-,hp,hn,hg⟩
  ·have r:Hid (d.read n=([],13)):=by show d.read n=_;simp[Dsk.read,hdn,hg]
   have t:Hid (d.there n=13):=by show d.there n=13;simp[Dsk.there,hn]
   clear hmap hD hS hl hdn hn hp hg
   go_enter Tryz.func53,Tryz.ntmps53
   go_wp2_with (first|(go_at_call 101;refine (up_ok _ b m false c0 c3).mono ?_;rintro e w' ⟨rfl,rfl⟩)|(go_at_call 102;refine (there_calls HH.out n).mono ?_;rw[t.out];rintro e w' ⟨rfl,rfl⟩))
   go_ret2
   exact⟨_,by rw[r.out];rfl,by rw[r.out];exact RowF.nil,Nw.refl _,fun g hg=>by cases hg⟩
  ·have r:Hid (d.read n=(f.file.bytes,0)):=by show d.read n=_;simp[Dsk.read,hdn,hg]
   have t:Hid (d.there n=0):=by show d.there n=0;simp[Dsk.there,hn]
   have hf:=hD.file f (by rw[hfs];simp)
   have hlen:=bytes_le hD.ok hg
   have f0:w.cell? ⟨f.fb,0,none⟩=some f.sl:=by simp[World.cell?,hf.blk]
   have HC:=zH (Clone_ok hf.own.rd (by omega))
   rw[hp]at hl
   clear hmap hD hS hdn hn hp hg hfs hf hlen
   go_enter Tryz.func53,Tryz.ntmps53
   go_wp2_with (first|(go_at_call 101;refine (up_ok _ b m false c0 c3).mono ?_;rintro e w' ⟨rfl,rfl⟩)|(go_at_call 102;refine (there_calls HH.out n).mono ?_;rw[t.out];rintro e w' ⟨rfl,rfl⟩)|(go_at_call 103;refine HC.out.mono ?_;rintro e w' ⟨v,rfl,ho,hw,hf⟩))
   go_ret2
   exact⟨v,by rw[r.out];rfl,by rw[r.out];exact ho,hw,hf⟩
set_option maxHeartbeats 800000
theorem quiet_nw {P:Program}{f:FuncId}{args:Array Value}{w:World}{p:Regrown}{v:Value}(h:∀w1,Nw w w1→Calls P f args w1 fun e w'=>e=.returned v∧Nw w1 w') :
  Calls P f args (grow (redrawn w p.d) p.os) fun e w''=>e=.returned v∧∃p':Regrown,w''=grow (redrawn w p'.d) p'.os:=by
 have hp:Nw w (grow (redrawn w p.d) p.os):=Nw.of_regrown ⟨p,rfl⟩
 exact (h _ hp).mono fun e w' ⟨he,hw⟩=>⟨he,(hp.trans hw).regrown⟩
theorem cellG {w:World}{a:Addr}{v:Value}(h:w.cell? a=some v):∀(p:Regrown),(grow (redrawn w p.d) p.os).cell? a=some v:=fun p=>cell_regrown h p.d p.os
theorem Append1_ok {w:World}{b:Nat}{d:Dsk}{S:Nat→Prop}(h:DiskIn w b d S) (n:Str) (l:List UInt8) (pn pd pb:Nat) (src:Value)
  (hn:w.cell? ⟨pn,0,none⟩=some (.string ⟨n.toArray⟩)) (hd:w.cell? ⟨pd,0,none⟩=some (.pointer (some ⟨b,0,none⟩))) (hb:w.cell? ⟨pb,0,none⟩=some src) (hs:Bs w src l)
  (hnl:n.length≤9223372036854775807) (hll:l.length≤140737488355328) :
  Calls Tryz.prog 85 #[.pointer (some ⟨pn,0,none⟩),.pointer (some ⟨pd,0,none⟩),.pointer (some ⟨pb,0,none⟩)] w fun e w'=>e=.returned (.int .i64 (d.mayAppend n l))∧Nw w w':=by
 have hR:=zH (right_calls n w hnl)
 cases hok:okName n
 case false =>
  have r:Hid (d.mayAppend n l=13):=by show d.mayAppend n l=13;simp[Dsk.mayAppend,hok]
  rw[hok]at hR
  clear hok h hs hb hd
  go_enter Tryz.func85,Tryz.ntmps85
  go_wp2_with (go_at_call 86;refine hR.out.mono ?_;rintro e w1 ⟨rfl,hw1⟩)
  go_ret
  exact⟨by rw[r.out];rfl,hw1⟩
 case true =>
  rw[hok]at hR
  have HH:=zH h
  obtain⟨m,fs,hD,hS⟩:=h
  obtain⟨c0,c1,-,-,-⟩:=hdr_cells hD.hdr
  obtain⟨clock,hmap,-⟩:=hD.map
  obtain⟨sa,sc,rfl,hlm⟩:=hs.len
  have hok':=hD.ok
  have hmost0:=hok'.most0
  have hmost:=hok'.most1
  have hused:=hok'.used
  have hlen:d.files.length=fs.length:=by rw[hD.files];simp
  go_enter Tryz.func85,Tryz.ntmps85
  go_wp2_with (go_at_call 86;refine hR.out.mono ?_;rintro e w1 ⟨rfl,hw1⟩)
  have d0:=cellG (hw1.cell hn)
  have d1:=cellG (hw1.cell hd)
  have d2:=cellG (hw1.cell hb)
  have d3:=cellG (hw1.cell c0)
  have d4:=cellG (hw1.cell c1)
  have hm1:=hw1.at_ hmap
  have HU:Hid (∀p:Regrown,Calls Tryz.prog 50 #[.pointer (some ⟨b,0,none⟩)] (grow (redrawn w1 p.d) p.os) fun e w''=>e=.returned (.int .i64 (usedF d.files))∧∃p':Regrown,w''=grow (redrawn w1 p'.d) p'.os):=fun p=>quiet_nw fun w2 hw2=>Used_ok ((HH.out.nw hw1).nw hw2)
  have hlk:∀p:Regrown,(Instr.lookup 106 (.map (some m)) (.string ⟨n.toArray⟩) false).run Tryz.prog (grow (redrawn w1 p.d) p.os)=.ok (.pointer (ptrOf fs n)) (grow (redrawn w1 p.d) p.os):=fun p =>
   look_file ((Nw.of_regrown ⟨p,rfl⟩:Nw w1 _).at_ hm1) n
  have hln:∀(p:Regrown) (ty:TypeId),(Builtin.len_ #[106] ty #[.map (some m)]).run Tryz.prog (grow (redrawn w1 p.d) p.os)=.ok (.int .i64 fs.length) (grow (redrawn w1 p.d) p.os):=fun p ty=>by
   have:=run_len_map (P:=Tryz.prog) ty Tryz.underlying106 ((Nw.of_regrown ⟨p,rfl⟩:Nw w1 _).at_ hm1)
   rwa [List.length_map]at this
  clear hm1 c0 c1 hn hd hb hs hmap
  have HD:=zH hD;clear hD
  have hwr:IntKind.i64.wrap ((usedF d.files:Int)+(l.length:Int))=(usedF d.files:Int)+(l.length:Int):=IntWalk.i64_in _ (by omega)
  by_cases hfull:d.most<(usedF d.files+l.length:Nat)
  ·have hg:decide (d.most<(usedF d.files:Int)+(l.length:Int))=true:=by simp;omega
   have r:Hid (d.mayAppend n l=5):=by show d.mayAppend n l=5;unfold Dsk.mayAppend;rw[if_pos hok,if_pos (.inl hfull)]
   refine wp_region_quiet_below (by kernel_rfl) (by kernel_rfl) ?_
   repeat (first|go_big_quiet_step (exact HU.out _)|quiet_step (exact HU.out _))
   refine wpQuiet_nil ?_
   intro w2 hw2
   have hw2:=zH (Nw.of_regrown hw2)
   clear hwr hg hfull
   go_wp2
   go_ret
   exact⟨by rw[r.out];rfl,hw1.trans hw2.out⟩
  ·have hg:decide (d.most<(usedF d.files:Int)+(l.length:Int))=false:=by simp;omega
   rcases ptrOf_spec HD.out n with ⟨hnn,hp,-⟩|⟨A,f,B,-,-,-,hp,hnn,-⟩
   ·rw[hp]at hlk
    by_cases hmany:200≤fs.length
    ·have hg2:decide (200≤fs.length)=true:=by simp;omega
     have hg3:decide ((200:Int)≤(fs.length:Int))=true:=by simp;omega
     have r:Hid (d.mayAppend n l=5):=by show d.mayAppend n l=5;unfold Dsk.mayAppend;rw[if_pos hok,if_pos (.inr ⟨hnn,by omega⟩)]
     clear hp hnn hlen
     refine wp_region_quiet_below (by kernel_rfl) (by kernel_rfl) ?_
     repeat (first|go_big_quiet_step (exact HU.out _)|quiet_step (exact HU.out _))
     refine wpQuiet_nil ?_
     intro w2 hw2
     have hw2:=zH (Nw.of_regrown hw2)
     clear hwr hg hfull hlk hln
     go_wp2
     go_ret
     exact⟨by rw[r.out];rfl,hw1.trans hw2.out⟩
    ·have hg2:decide (200≤fs.length)=false:=by simp;omega
     have hg3:decide ((200:Int)≤(fs.length:Int))=false:=by simp;omega
     have r:Hid (d.mayAppend n l=0):=by show d.mayAppend n l=0;unfold Dsk.mayAppend;rw[if_pos hok,if_neg (by rintro (h|⟨-,h⟩);exact hfull h;omega)]
     clear hp hnn hlen
     refine wp_region_quiet_below (by kernel_rfl) (by kernel_rfl) ?_
     repeat (first|go_big_quiet_step (exact HU.out _)|quiet_step (exact HU.out _))
     refine wpQuiet_nil ?_
     intro w2 hw2
     have hw2:=zH (Nw.of_regrown hw2)
     clear hwr hg hfull hlk hln
     go_wp2
     go_ret
     exact⟨by rw[r.out];rfl,hw1.trans hw2.out⟩
   ·rw[hp]at hlk
    have r:Hid (d.mayAppend n l=0):=by show d.mayAppend n l=0;unfold Dsk.mayAppend;rw[if_pos hok,if_neg (by rintro (h|⟨h,-⟩);exact hfull h;exact h hnn)]
    clear hp hnn hlen
    refine wp_region_quiet_below (by kernel_rfl) (by kernel_rfl) ?_
    repeat (first|go_big_quiet_step (exact HU.out _)|quiet_step (exact HU.out _))
    refine wpQuiet_nil ?_
    intro w2 hw2
    have hw2:=zH (Nw.of_regrown hw2)
    clear hwr hg hfull hlk hln
    go_wp2
    go_ret
    exact⟨by rw[r.out];rfl,hw1.trans hw2.out⟩
theorem Sync1_ok {w:World}{b:Nat}{d:Dsk}{S:Nat→Prop}(h:DiskIn w b d S) (n:Str) (pn pd:Nat)
  (hn:w.cell? ⟨pn,0,none⟩=some (.string ⟨n.toArray⟩)) (hd:w.cell? ⟨pd,0,none⟩=some (.pointer (some ⟨b,0,none⟩))) :
  Calls Tryz.prog 132 #[.pointer (some ⟨pd,0,none⟩),.pointer (some ⟨pn,0,none⟩)] w fun e w'=>e=.returned (.int .i64 (d.there n))∧Nw w w':=by
 have H:=zH (there_calls h n)
 clear h
 go_enter Tryz.func132,Tryz.ntmps132
 go_wp2_with (go_at_call 102;refine H.out.mono ?_;rintro e w' ⟨rfl,rfl⟩)
 go_ret
 exact⟨rfl,Nw.refl _⟩
theorem Remove1_ok {w:World}{b:Nat}{d:Dsk}{S:Nat→Prop}(h:DiskIn w b d S) (n:Str) (pn pd:Nat)
  (hn:w.cell? ⟨pn,0,none⟩=some (.string ⟨n.toArray⟩)) (hd:w.cell? ⟨pd,0,none⟩=some (.pointer (some ⟨b,0,none⟩))) :
  Calls Tryz.prog 106 #[.pointer (some ⟨pd,0,none⟩),.pointer (some ⟨pn,0,none⟩)] w fun e w'=>e=.returned (.int .i64 (d.there n))∧Nw w w':=by
 have H:=zH (there_calls h n)
 clear h
 go_enter Tryz.func106,Tryz.ntmps106
 go_wp2_with (go_at_call 102;refine H.out.mono ?_;rintro e w' ⟨rfl,rfl⟩)
 go_ret
 exact⟨rfl,Nw.refl _⟩
def Dsk.mayRename (d:Dsk) (a b:Str):Int:=if okName b then d.there a else 13
theorem Rename1_ok {w:World}{b:Nat}{d:Dsk}{S:Nat→Prop}(h:DiskIn w b d S) (n t:Str) (pn pd pt:Nat)
  (hn:w.cell? ⟨pn,0,none⟩=some (.string ⟨n.toArray⟩)) (hd:w.cell? ⟨pd,0,none⟩=some (.pointer (some ⟨b,0,none⟩))) (ht:w.cell? ⟨pt,0,none⟩=some (.string ⟨t.toArray⟩))
  (htl:t.length≤9223372036854775807) :
  Calls Tryz.prog 152 #[.pointer (some ⟨pt,0,none⟩),.pointer (some ⟨pd,0,none⟩),.pointer (some ⟨pn,0,none⟩)] w fun e w'=>e=.returned (.int .i64 (d.mayRename n t))∧Nw w w':=by
 have hR:=zH (right_calls t w htl)
 have HH:=zH h
 clear h
 cases hok:okName t
 case false =>
  have r:Hid (d.mayRename n t=13):=by show d.mayRename n t=13;simp[Dsk.mayRename,hok]
  rw[hok]at hR
  clear hok
  go_enter Tryz.func152,Tryz.ntmps152
  go_wp2_with (go_at_call 86;refine hR.out.mono ?_;rintro e w1 ⟨rfl,hw1⟩)
  go_ret
  exact⟨by rw[r.out];rfl,hw1⟩
 case true =>
  have r:Hid (d.mayRename n t=d.there n):=by show d.mayRename n t=d.there n;simp[Dsk.mayRename,hok]
  rw[hok]at hR
  clear hok
  go_enter Tryz.func152,Tryz.ntmps152
  go_wp2_with (go_at_call 86;refine hR.out.mono ?_)
  rintro e w1 ⟨rfl,hw1⟩
  have e1:=hw1.cell hn
  have e2:=hw1.cell hd
  have H:=zH (there_calls (HH.out.nw hw1) n)
  go_wp2_with (go_at_call 102;refine H.out.mono ?_;rintro e w' ⟨rfl,rfl⟩)
  go_ret
  exact⟨by rw[r.out];rfl,hw1⟩
theorem Cut1_ok {w:World}{b:Nat}{d:Dsk}{S:Nat→Prop}(h:DiskIn w b d S) (n:Str) (k:Int) (pn pd pk:Nat)
  (hn:w.cell? ⟨pn,0,none⟩=some (.string ⟨n.toArray⟩)) (hd:w.cell? ⟨pd,0,none⟩=some (.pointer (some ⟨b,0,none⟩))) (hk:w.cell? ⟨pk,0,none⟩=some (.int .i64 k)) :
  Calls Tryz.prog 104 #[.pointer (some ⟨pd,0,none⟩),.pointer (some ⟨pn,0,none⟩),.pointer (some ⟨pk,0,none⟩)] w fun e w'=>e=.returned (.int .i64 (d.mayCut n k))∧Nw w w':=by
 obtain⟨m,fs,hD,hS⟩:=h
 obtain⟨c0,c1,-,-,-⟩:=hdr_cells hD.hdr
 obtain⟨clock,hmap,-⟩:=hD.map
 have d0:=cellG hn
 have d1:=cellG hd
 have d2:=cellG hk
 have d3:=cellG c0
 have hlk:∀p:Regrown,(Instr.lookup 106 (.map (some m)) (.string ⟨n.toArray⟩) false).run Tryz.prog (grow (redrawn w p.d) p.os)=.ok (.pointer (ptrOf fs n)) (grow (redrawn w p.d) p.os):=fun p =>
  look_file ((Nw.of_regrown ⟨p,rfl⟩:Nw w _).at_ hmap) n
 rcases ptrOf_spec hD n with ⟨hnn,hp,hg⟩|⟨A,f,B,hfs,-,-,hp,hnn,hg⟩
 ·rw[hp]at hlk
  have r:Hid (d.mayCut n k=13):=by show d.mayCut n k=13;simp[Dsk.mayCut,hg]
  clear hp hnn hD hmap hn hd hk c0 hg
  go_enter Tryz.func104,Tryz.ntmps104
  go_wp2
  refine wp_region_quiet_below (by kernel_rfl) (by kernel_rfl) ?_
  repeat (first|go_big_quiet_step (fail)|quiet_step (fail))
  refine wpQuiet_nil ?_
  intro w2 hw2
  have hw2:=zH (Nw.of_regrown hw2)
  clear hlk
  go_wp2
  go_ret
  exact⟨by rw[r.out];rfl,hw2.out⟩
 ·rw[hp]at hlk
  have hf:=hD.file f (by rw[hfs];simp)
  obtain⟨sa,sc,hsl,hlm⟩:=hf.own.rd.len
  have f0:w.cell? ⟨f.fb,0,none⟩=some (.slice sa f.file.bytes.length sc):=by rw[←hsl];simp[World.cell?,hf.blk]
  have hlen:=bytes_le hD.ok hg
  generalize hL:f.file.bytes.length=L at *
  have r:Hid (d.mayCut n k=if k<0∨(L:Int)<k then 2 else 0):=by show d.mayCut n k=_;simp[Dsk.mayCut,hg,hL]
  clear hp hnn hD hmap hg hfs hf hsl hL hlm d0 d1 d2 d3
  have hcase:(k<0)∨(0≤k∧(L:Int)<k)∨(0≤k∧k≤(L:Int)):=by omega
  rcases hcase with h1|⟨h1,h2⟩|⟨h1,h2⟩
  all_goals
   go_enter Tryz.func104,Tryz.ntmps104
   go_wp2
   have d0:=cellG hn
   have d1:=cellG hd
   have d3:=cellG c0
   refine wp_region_quiet_below (by kernel_rfl) (by kernel_rfl) ?_
   repeat (first|go_big_quiet_step (fail)|quiet_step (fail))
   refine wpQuiet_nil ?_
   intro w2 hw2
   have hw2:=Nw.of_regrown hw2
   have f1:=cellG (hw2.cell f0)
   have k1:=cellG (hw2.cell hk)
   have HW:=zH hw2
   clear hlk d0 d1 d3 hw2 hk
   go_wp2
   first
    |(have q1:decide (k<0)=true:=by simpa using h1
      have r2:Hid (d.mayCut n k=2):=by show d.mayCut n k=2;rw[r.out,if_pos (by omega)]
      refine wp_region_quiet_below (by kernel_rfl) (by kernel_rfl) ?_
      repeat (first|go_big_quiet_step (fail)|quiet_step (fail))
      refine wpQuiet_nil ?_
      intro w3 hw3
      have hw3:=zH (Nw.of_regrown hw3)
      clear f1 k1 q1
      go_wp2
      go_ret
      exact⟨by rw[r2.out];rfl,HW.out.trans hw3.out⟩)
    |(have q1:decide (k<0)=false:=by simpa using h1
      have q2:decide ((L:Int)<k)=true:=by simpa using h2
      have r2:Hid (d.mayCut n k=2):=by show d.mayCut n k=2;rw[r.out,if_pos (by omega)]
      refine wp_region_quiet_below (by kernel_rfl) (by kernel_rfl) ?_
      repeat (first|go_big_quiet_step (fail)|quiet_step (fail))
      refine wpQuiet_nil ?_
      intro w3 hw3
      have hw3:=zH (Nw.of_regrown hw3)
      clear f1 k1 q1 q2
      go_wp2
      go_ret
      exact⟨by rw[r2.out];rfl,HW.out.trans hw3.out⟩)
    |(have q1:decide (k<0)=false:=by simpa using h1
      have q2:decide ((L:Int)<k)=false:=by simpa using h2
      have r2:Hid (d.mayCut n k=0):=by show d.mayCut n k=0;rw[r.out,if_neg (by omega)]
      refine wp_region_quiet_below (by kernel_rfl) (by kernel_rfl) ?_
      repeat (first|go_big_quiet_step (fail)|quiet_step (fail))
      refine wpQuiet_nil ?_
      intro w3 hw3
      have hw3:=zH (Nw.of_regrown hw3)
      clear f1 k1 q1 q2
      go_wp2
      go_ret
      exact⟨by rw[r2.out];rfl,HW.out.trans hw3.out⟩)
end Go.Proofs.YtkbenkldfehhlaaGreatDoor
