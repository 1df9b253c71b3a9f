/-
  Texts merged by a program of this claim's: DiskM, Reg, DiskI, DiskJ, DiskK, DiskL.
-/
import Derived.Test.YtkbenkldfehhlaaGreatDoorM3
import Derived.Test.YtkbenkldfehhlaaGreatDoorM1
namespace Go.Proofs.YtkbenkldfehhlaaGreatDoor
open Go Go.RowKit
theorem dskBlocks_mid (b m:Nat) (A B:List FE) (f:FE):dskBlocks b m (A++f::B)=(b::m::A.flatMap FE.blocks)++f.fb::(f.sl.ownBlock.toList++B.flatMap FE.blocks):=by
 simp[dskBlocks,FE.blocks]
theorem dskBlocks_two (b m:Nat) (A B:List FE):dskBlocks b m (A++B)=(b::m::A.flatMap FE.blocks)++B.flatMap FE.blocks:=by
 simp[dskBlocks]
theorem nodup_fresh {X Y t t':List Nat}{fb N:Nat}(h:(X++fb::(t++Y)).Nodup) (hlt:∀k∈X++fb::(t++Y),k<N) (ht:t'=t∨t'=[]∨∃g,t'=[g]∧N≤g):(X++fb::(t'++Y)).Nodup:=by
 rcases ht with rfl|ht
 ·exact h
 ·have hsub:(X++fb::Y).Sublist (X++fb::(t++Y)):=List.Sublist.append_left (List.Sublist.cons_cons _ (List.sublist_append_right _ _)) _
  have h1:(X++fb::Y).Nodup:=hsub.nodup h
  rcases ht with rfl|⟨g,rfl,hg⟩
  ·exact h1
  ·have hp:(X++fb::([g]++Y)).Perm (g::(X++fb::Y)):=by
    have e1:X++fb::([g]++Y)=(X++[fb])++g::Y:=by simp
    have e2:X++fb::Y=(X++[fb])++Y:=by simp
    rw[e1,e2]
    exact List.perm_middle
   rw[hp.nodup_iff,List.nodup_cons]
   refine⟨fun hc=>?_,h1⟩
   have:=hlt g (hsub.subset hc)
   omega
theorem usedF_append (A B:List (Str×DFile)):usedF (A++B)=usedF A+usedF B:=by simp[usedF]
theorem usedF_mid (A B:List (Str×DFile)) (n:Str) (f:DFile):usedF (A++(n,f)::B)=usedF A+f.bytes.length+usedF B:=by
 simp[usedF,Nat.add_assoc]
theorem namesF_append (A B:List (Str×DFile)):namesF (A++B)=namesF A++namesF B:=by simp[namesF]
theorem Dsk.Ok.upd {d:Dsk}(ok:d.Ok){A B:List (Str×DFile)}{n:Str}{f g:DFile}(hd:d.files=A++(n,f)::B) (hs:g.synced≤g.bytes.length) (hu:(usedF A+g.bytes.length+usedF B:Nat)≤d.most) :
  ({ d with files:=A++(n,g)::B }:Dsk).Ok:=by
 have hn:=ok.names
 have hnn:=ok.named
 have hf:=ok.few
 have hsy:=ok.synced
 rw[hd]at hn hnn hf hsy
 refine⟨ok.most0,ok.most1,ok.arm0,ok.arm1,?_,?_,?_,?_,?_⟩
 ·simpa [namesF] using hn
 ·simpa [namesF] using hnn
 ·simpa using hf
 ·show ((usedF (A++(n,g)::B):Nat):Int)≤d.most
  rw[usedF_mid];exact hu
 ·intro x hx
  simp only[List.mem_append,List.mem_cons]at hx hsy
  rcases hx with hx|rfl|hx
  ·exact hsy x (.inl hx)
  ·exact hs
  ·exact hsy x (.inr (.inr hx))
theorem Dsk.Ok.add {d:Dsk}(ok:d.Ok){n:Str}(hn:n∉namesF d.files) (hok:okName n=true) (hf:d.files.length<200):({ d with files:=d.files++[(n,⟨[],0⟩)] }:Dsk).Ok:=by
 refine⟨ok.most0,ok.most1,ok.arm0,ok.arm1,?_,?_,?_,?_,?_⟩
 ·show (namesF (d.files++[(n,⟨[],0⟩)])).Nodup
  rw[namesF_append,List.nodup_append]
  refine⟨ok.names,by simp[namesF],?_⟩
  intro a ha c hc e
  simp[namesF]at hc
  subst hc;subst e;exact hn ha
 ·intro k hk
  have hk':k∈namesF (d.files++[(n,⟨[],0⟩)]):=hk
  rw[namesF_append,List.mem_append]at hk'
  rcases hk' with hk|hk
  ·exact ok.named k hk
  ·simp[namesF]at hk;subst hk;exact hok
 ·show (d.files++[(n,(⟨[],0⟩:DFile))]).length≤200
  simp;omega
 ·show ((usedF (d.files++[(n,⟨[],0⟩)]):Nat):Int)≤d.most
  rw[usedF_append];simpa [usedF] using ok.used
 ·intro x hx
  have hx':x∈d.files++[(n,(⟨[],0⟩:DFile))]:=hx
  rw[List.mem_append]at hx'
  rcases hx' with hx|hx
  ·exact ok.synced x hx
  ·simp at hx;subst hx;exact Nat.le_refl _
theorem Dsk.Ok.del {d:Dsk}(ok:d.Ok){A B:List (Str×DFile)}{x:Str×DFile}(hd:d.files=A++x::B):({ d with files:=A++B }:Dsk).Ok:=by
 have hsub:(A++B).Sublist d.files:=by rw[hd];exact List.Sublist.append_left (List.sublist_cons_self _ _) _
 refine⟨ok.most0,ok.most1,ok.arm0,ok.arm1,(hsub.map Prod.fst).nodup ok.names,fun k hk=>ok.named k ((hsub.map Prod.fst).subset hk),Nat.le_trans hsub.length_le ok.few,?_,fun x hx=>ok.synced x (hsub.subset hx)⟩
 show ((usedF (A++B):Nat):Int)≤d.most
 have h:=ok.used
 rw[hd]at h
 obtain⟨k,g⟩:=x
 rw[usedF_mid]at h
 rw[usedF_append];omega
theorem DiskAt.mem {w:World}{b m:Nat}{d:Dsk}{A B:List FE}{f:FE}(h:DiskAt w b m d (A++f::B)):f.At w:=h.file f (by simp)
theorem nf_mid (A B:List FE) (f:FE):(A++f::B).map FE.nf=A.map FE.nf++(f.name,f.file)::B.map FE.nf:=by simp[FE.nf]
theorem names_of_FE (A:List FE):namesF (A.map FE.nf)=A.map FE.name:=by simp[namesF,List.map_map,Function.comp_def,FE.nf]
theorem DiskAt.upd {w w':World}{b m:Nat}{d:Dsk}{A B:List FE}{f:FE}(h:DiskAt w b m d (A++f::B)) (g:DFile) (sl:Value)
  (ho:∀k,k<w.heap.size→k∉f.blocks→w'.heap[k]? = w.heap[k]?)
  (hf:FE.At w' { f with file:=g,sl:=sl }) (hsl:sl.ownBlock=f.sl.ownBlock∨∀k,sl.ownBlock=some k→w.heap.size≤k) (hA:f.name∉A.map FE.name)
  (hs:g.synced≤g.bytes.length) (hu:(usedF (A.map FE.nf)+g.bytes.length+usedF (B.map FE.nf):Nat)≤d.most) :
  DiskAt w' b m { d with files:=setF d.files f.name g } (A++{ f with file:=g,sl:=sl }::B):=by
 have hfile:d.files=A.map FE.nf++(f.name,f.file)::B.map FE.nf:=by rw[h.files,nf_mid]
 have hset:setF d.files f.name g=A.map FE.nf++(f.name,g)::B.map FE.nf:=by
  rw[hfile];exact setF_hit (by rw[names_of_FE];exact hA)
 have hnd:=h.nodup
 rw[dskBlocks_mid]at hnd
 have hlt:=h.lt
 rw[dskBlocks_mid]at hlt
 have hdis:∀k,k∈(b::m::A.flatMap FE.blocks)∨k∈B.flatMap FE.blocks→k∉f.blocks:=by
  intro k hk hc
  have hc':k∈f.fb::f.sl.ownBlock.toList:=hc
  have e:(b::m::A.flatMap FE.blocks)++f.fb::(f.sl.ownBlock.toList++B.flatMap FE.blocks)=(b::m::A.flatMap FE.blocks)++((f.fb::f.sl.ownBlock.toList)++B.flatMap FE.blocks):=by simp
  rw[e,List.nodup_append]at hnd
  rcases hk with hk|hk
  ·exact hnd.2.2 k hk k (List.mem_append_left _ hc') rfl
  ·exact (List.nodup_append.1 hnd.2.1).2.2 k hc' k hk rfl
 have hltX:∀k,k∈(b::m::A.flatMap FE.blocks)∨k∈B.flatMap FE.blocks→k<w.heap.size:=fun k hk=>hlt k (by
  rcases hk with hk|hk
  ·exact List.mem_append_left _ hk
  ·exact List.mem_append_right _ (List.mem_cons_of_mem _ (List.mem_append_right _ hk)))
 have same:∀k,k∈(b::m::A.flatMap FE.blocks)∨k∈B.flatMap FE.blocks→w'.heap[k]? = w.heap[k]?:=fun k hk=>ho k (hltX k hk) (hdis k hk)
 obtain⟨clock,h1,h2⟩:=h.map
 refine⟨?_,⟨clock,?_,?_⟩,?_,?_,?_,?_,?_⟩
 ·rw[same b (.inl (by simp))];exact h.hdr
 ·rw[same m (.inl (by simp))]
  have:(A++{ f with file:=g,sl:=sl }::B).map FE.en=(A++f::B).map FE.en:=by simp[FE.en]
  rw[this];exact h1
 ·intro x hx
  simp only[List.mem_append,List.mem_cons]at hx
  rcases hx with hx|rfl|hx
  ·exact h2 x (by simp[hx])
  ·exact h2 f (by simp)
  ·exact h2 x (by simp[hx])
 ·show setF d.files f.name g=_
  rw[hset,nf_mid]
 ·intro x hx
  simp only[List.mem_append,List.mem_cons]at hx
  rcases hx with hx|rfl|hx
  ·exact (h.file x (by simp[hx])).keep fun k hk=>same k (.inl (by simp only[List.mem_cons,List.mem_flatMap];exact .inr (.inr ⟨x,hx,hk⟩)))
  ·exact hf
  ·exact (h.file x (by simp[hx])).keep fun k hk=>same k (.inr (by rw[List.mem_flatMap];exact⟨x,hx,hk⟩))
 ·rw[dskBlocks_mid]
  refine nodup_fresh hnd hlt ?_
  show sl.ownBlock.toList=_∨_
  rcases hsl with hsl|hsl
  ·exact .inl (by rw[hsl])
  ·cases hb:sl.ownBlock with
   |none=>exact .inr (.inl rfl)
   |some k=>exact .inr (.inr ⟨k,rfl,hsl k hb⟩)
 ·have:(A++{ f with file:=g,sl:=sl }::B).map FE.born=(A++f::B).map FE.born:=by simp
  rw[this];exact h.born
 ·rw[hset]
  exact h.ok.upd hfile hs hu
theorem blocks_upd {b m N:Nat}{A B:List FE}{f:FE}{g:DFile}{sl:Value}(hsl:sl.ownBlock=f.sl.ownBlock∨∀k,sl.ownBlock=some k→N≤k) :
  ∀k∈dskBlocks b m (A++{ f with file:=g,sl:=sl }::B),k∈dskBlocks b m (A++f::B)∨N≤k:=by
 intro k hk
 rw[dskBlocks_mid]at hk
 rw[dskBlocks_mid]
 simp only[List.mem_append,List.mem_cons,Option.mem_toList]at hk ⊢
 rcases hk with hk|hk|hk|hk
 ·exact .inl (.inl hk)
 ·exact .inl (.inr (.inl hk))
 ·rcases hsl with hsl|hsl
  ·rw[hsl]at hk;exact .inl (.inr (.inr (.inl hk)))
  ·exact .inr (hsl k hk)
 ·exact .inl (.inr (.inr (.inr hk)))
theorem DiskAt.add {w w':World}{b m clock:Nat}{d:Dsk}{fs:List FE}(h:DiskAt w b m d fs) (n:Str) (fb:Nat) (hclk:∀f∈fs,f.born<clock)
  (hm:w'.heap[m]? = some (.map (ents (fs.map FE.en++[⟨n,.pointer (some ⟨fb,0,none⟩),clock⟩])) (clock+1))) (hfb:w'.heap[fb]? = some (.cells #[.slice none 0 0,.int .i64 0] 132 (0,0))) (hnew:w.heap.size≤fb)
  (ho:∀k,k<w.heap.size→k≠m→w'.heap[k]? = w.heap[k]?) (hn:n∉namesF d.files) (hok:okName n=true) (hfew:d.files.length<200) :
  DiskAt w' b m { d with files:=d.files++[(n,⟨[],0⟩)] } (fs++[⟨n,⟨[],0⟩,fb,.slice none 0 0,clock⟩]):=by
 have hnd:=h.nodup
 have hlt:=h.lt
 have hbm:b≠m:=by simp only[dskBlocks,List.nodup_cons,List.mem_cons,not_or]at hnd;exact hnd.1.1
 have hmf:∀f∈fs,m∉f.blocks:=by
  simp only[dskBlocks,List.nodup_cons,List.mem_cons,List.mem_flatMap,not_or]at hnd
  exact fun f hf hc=>hnd.2.1 ⟨f,hf,hc⟩
 refine⟨?_,⟨clock+1,?_,?_⟩,?_,?_,?_,?_,h.ok.add hn hok hfew⟩
 ·rw[ho b (hlt b (by simp[dskBlocks])) hbm];exact h.hdr
 ·rw[hm];simp[FE.en]
 ·intro x hx
  simp only[List.mem_append,List.mem_singleton]at hx
  rcases hx with hx|rfl
  ·have:=hclk x hx;omega
  ·exact Nat.lt_succ_self _
 ·show d.files++_=_
  rw[h.files];simp[FE.nf]
 ·intro x hx
  simp only[List.mem_append,List.mem_singleton]at hx
  rcases hx with hx|rfl
  ·exact (h.file x hx).keep fun k hk=>ho k (hlt k (by simp only[dskBlocks,List.mem_cons,List.mem_flatMap];exact .inr (.inr ⟨x,hx,hk⟩))) (fun e=>hmf x hx (e▸hk))
  ·exact⟨hfb,RowF.nil⟩
 ·have:dskBlocks b m (fs++[⟨n,⟨[],0⟩,fb,.slice none 0 0,clock⟩])=dskBlocks b m fs++[fb]:=by simp[dskBlocks,FE.blocks,Value.ownBlock]
  rw[this,List.nodup_append]
  refine⟨hnd,by simp,?_⟩
  intro k hk c hc e
  simp at hc
  have:=hlt k hk
  omega
 ·rw[List.map_append,List.nodup_append]
  refine⟨h.born,by simp,?_⟩
  intro k hk c hc e
  obtain⟨x,hx,rfl⟩:=List.mem_map.1 hk
  simp at hc
  have:=hclk x hx
  omega
section
variable {P:Program}{ops:Array Oper}{md:Region.Mode}{C:World→Prop}{Q:Exit→Act→World→Prop}
def YieldsW (P:Program) (ops:Array Oper) (C:World→Prop) (o:Oper) (v:Value) (a:Act):Prop:=
 (Region.wanted o (yielded ops a.tmps)=true∧∀w,C w→(execOp a.eval o).run P w=.ok (.value v) w) ∨
 (Region.wanted o (yielded ops a.tmps)=false∧v=undef)
theorem YieldsW.of_same {o:Oper}{v:Value}{a a':Act}(hy:YieldsW P ops C o v a) (he:execOp a'.eval o=execOp a.eval o)
  (hw:Region.wanted o (yielded ops a'.tmps)=Region.wanted o (yielded ops a.tmps)):YieldsW P ops C o v a':=by
 unfold YieldsW at *
 rw[he,hw]
 exact hy
theorem YieldsW.wpOp {i:Nat}{o:Oper}{v:Value}{a:Act}(hi:ops[i]? = some o) (hy:YieldsW P ops C o v a)
  {K:Act→World→Prop}{w:World}(hC:C w) (h:K (a.put o.dst v) w):wpOp P ops Q i K a w:=by
 unfold Go.wpOp
 simp only[hi]
 rcases hy with ⟨hw,hv⟩|⟨hw,rfl⟩
 ·simp only[hw,if_true,Oper.wp,hv w hC,Oper.upon];exact .inl h
 ·simp only[hw,Bool.false_eq_true,if_false];exact h
theorem wpOp_putW {j:Nat}{oi oj:Oper}{v:Value}(hj:ops[j]? = some oj) (hap:oi.apart ops oj=true)
  (hsi:∀cs b,oi.op≠.select cs b) (hsj:∀cs b,oj.op≠.select cs b)
  (hQ:∀c a w,Q (.panic c) (a.put oi.dst v) w→Q (.panic c) a w){D:World→Prop}{K:Act→World→Prop}{a:Act}{w:World}
  (hy:YieldsW P ops C oi v a) (h:wpOp P ops Q j (fun a' w'=>D w'∧K a' w') (a.put oi.dst v) w) :
  wpOp P ops Q j (fun a' w'=>D w'∧YieldsW P ops C oi v a'∧K (a'.put oi.dst v) w') a w:=by
 obtain⟨h1,h2,h3⟩:=Oper.apart_spec hap
 have keep:∀(a:Act),YieldsW P ops C oi v a→∀u,YieldsW P ops C oi v (a.put oj.dst u):=fun a hy u =>
  hy.of_same (execOp_put oi hsi a oj.dst u h3) (wanted_put oi a oj.dst u h3)
 have keepD:∀d,YieldsW P ops C oi v { a with defers:=d::a.defers }:=fun d=>hy.of_same rfl rfl
 unfold wpOp at *
 simp only[hj]at *
 rw[wanted_put oj a oi.dst v h1]at h
 split
 ·rename_i hw
  simp only[hw,if_true]at h
  rcases h with h|⟨hasks,hlets⟩
  case inr=>exact .inr ⟨by unfold Oper.asks at *;rw[execOp_put oj hsj a oi.dst v h1]at hasks;exact hasks,hlets⟩
  refine .inl ?_
  unfold Oper.wp at *
  rw[execOp_put oj hsj a oi.dst v h1]at h
  generalize (execOp a.eval oj).run P w=r at *
  cases r with
  |ok n w' =>
   cases n <;> simp only[Oper.upon]at h ⊢
   case value u=>exact⟨h.1,keep a hy u,by rw[←Act.put_comm a v u h2];exact h.2⟩
   case skip=>exact⟨h.1,keep a hy _,by rw[←Act.put_comm a v undef h2];exact h.2⟩
   case defer d =>
    refine⟨h.1,keep _ (keepD d) _,?_⟩
    rw[←Act.put_comm _ v undef h2,←Act.put_defers]
    exact h.2
   case enter f args =>
    refine Calls.mono h fun e w'' he=>?_
    cases e with
    |returned u=>exact⟨he.1,keep a hy u,by rw[←Act.put_comm a v u h2];exact he.2⟩
    |panicked c=>exact hQ _ _ _ he
    |outgrown=>exact he
   case row row args=>exact Rows.mono h fun u w'' he=>⟨he.1,keep a hy u,by rw[←Act.put_comm a v u h2];exact he.2⟩
  |halt x w' =>
   cases x <;> simp only[Oper.upon]at h ⊢
   case panic u=>exact hQ _ _ _ h
 ·rename_i hw
  simp only[hw]at h
  exact⟨h.1,keep a hy _,by rw[←Act.put_comm a v undef h2];exact h.2⟩
def wpAnyK (P:Program) (md:Region.Mode) (ops:Array Oper) (C:World→Prop) (n:Nat) (Q:Exit→Act→World→Prop):Nat→Array Bool→Act→World→Prop
 |0,listed,a,w=>Region.ready md ops listed=[]∧Q .normal a w
 |f+1,listed,a,w =>
  (Region.ready md ops listed=[]→Q .normal a w) ∧
  ∀i∈Region.ready md ops listed,wpOp P ops Q i (fun a' w'=>(i<n→C w')∧wpAnyK P md ops C n Q f (listed.setIfInBounds i true) a' w') a w
theorem wpAny_of_K {n:Nat}:∀(f:Nat) (listed:Array Bool) (a:Act) (w:World),wpAnyK P md ops C n Q f listed a w→wpAny P md ops Q f listed a w
 |0,_,_,_,h=>h
 |f+1,_,_,_,h=>⟨h.1,fun i hi=>wpOp_mono (fun a' w' h'=>wpAny_of_K f _ a' w' h'.2) (h.2 i hi)⟩
theorem wpAnyK_first {n i:Nat}{oi:Oper}{v:Value}(hi:ops[i]? = some oi) (hsel:∀(j:Nat) (o:Oper) cs b,ops[j]? = some o→o.op≠.select cs b)
  (hQ:∀c a w,Q (.panic c) (a.put oi.dst v) w→Q (.panic c) a w)
  (hs:Region.sinkB md ops n=true) (hc:Region.chainB md ops n=true) (hn:n<ops.size) (hin:i<n) :
  ∀(f:Nat) (listed:Array Bool) (a:Act) (w:World),C w→HeadInv md ops n listed →
   (∀j oj,ops[j]? = some oj→j≠i→listed.getD j true=false→(∀e∈oj.after,Region.binds md e=true→e.on≠i)→oi.apart ops oj=true) →
   i∈Region.ready md ops listed→YieldsW P ops C oi v a →
   wpAnyK P md ops C n Q f (listed.setIfInBounds i true) (a.put oi.dst v) w→wpAnyK P md ops C n Q (f+1) listed a w:=by
 intro f
 induction f with
 |zero =>
  intro listed a w hC _ _ hr hy H
  refine⟨fun h=>(by rw[h]at hr;cases hr),fun j hj=>?_⟩
  by_cases hji:j=i
  ·subst hji;exact hy.wpOp hi hC ⟨fun _=>hC,H⟩
  ·have:=ready_mono hj hji
   rw[H.1]at this
   cases this
 |succ f ih =>
  intro listed a w hC inv hfree hr hy H
  have hun:=(mem_ready.1 hr).1
  refine⟨fun h=>(by rw[h]at hr;cases hr),fun j hj=>?_⟩
  have hjn:j<n:=by
   rcases Nat.lt_or_ge j n with h|h
   ·exact h
   ·exact absurd hj (tail_waits hs hc hn inv _ i rfl hin hun j h)
  by_cases hji:j=i
  ·subst hji;exact hy.wpOp hi hC ⟨fun _=>hC,H⟩
  ·have h1:=H.2 j (ready_mono hj hji)
   obtain⟨hjun,oj,hoj,hall⟩:=mem_ready.1 hj
   have hnot:∀e∈oj.after,Region.binds md e=true→e.on≠i:=fun e he hb heq=>by
    have h1:=hall e he hb
    rw[heq,getD_both hun]at h1
    cases h1
   have h2:=wpOp_putW hoj (hfree j oj hoj hji hjun hnot) (fun cs b=>hsel i oi cs b hi) (fun cs b=>hsel j oj cs b hoj) hQ hy h1
   have hfree':∀k ok,ops[k]? = some ok→k≠i→(listed.setIfInBounds j true).getD k true=false →
     (∀e∈ok.after,Region.binds md e=true→e.on≠i)→oi.apart ops ok=true:=fun k ok hk hki hun hno=>by
    refine hfree k ok hk hki ?_ hno
    by_cases hjk:j=k
    ·subst hjk;exact hjun
    ·rw[getD_set_ne true hjk]at hun;exact hun
   refine wpOp_mono (fun a' w' h3=>⟨h3.1,ih (listed.setIfInBounds j true) a' w' (h3.1 hjn) (inv.set hj hjn) hfree' (ready_mono hr (Ne.symm hji)) h3.2.1 ?_⟩) h2
   rw[Array.setIfInBounds_comm _ _ hji]
   exact h3.2.2
def wpNums (P:Program) (ops:Array Oper) (C:World→Prop) (n:Nat) (Q:Exit→Act→World→Prop):List Nat→Act→World→Prop
 |[],a,w=>Q .normal a w
 |i::l,a,w=>wpOp P ops Q i (fun a' w'=>(i<n→C w')∧wpNums P ops C n Q l a' w') a w
def Region.numsB (md:Region.Mode) (ops:Array Oper):List Nat→Array Bool→Bool
 |[],listed=>(Region.ready md ops listed).isEmpty
 |i::l,listed=>decide (Region.ready md ops listed=[i]) && Region.numsB md ops l (listed.setIfInBounds i true)
theorem wpAnyK_nums {n:Nat}:∀(l:List Nat) (listed:Array Bool) (a:Act) (w:World),Region.numsB md ops l listed=true→wpNums P ops C n Q l a w→wpAnyK P md ops C n Q l.length listed a w
 |[],listed,a,w,hB,h=>⟨by simpa [Region.numsB] using hB,h⟩
 |i::l,listed,a,w,hB,h=>by
  simp only[Region.numsB,Bool.and_eq_true,decide_eq_true_eq]at hB
  refine⟨fun h1=>(by rw[hB.1]at h1;cases h1),fun j hj=>?_⟩
  rw[hB.1]at hj
  have:j=i:=by simpa using hj
  subst this
  exact wpOp_mono (fun a' w' h'=>⟨h'.1,wpAnyK_nums l _ a' w' hB.2 h'.2⟩) h
def Oper.reads (P:Program) (o:Oper) (a:Act) (C:World→Prop) (next:Act→Prop):Prop:=∃v,(∀w,C w→(execOp a.eval o).run P w=.ok (.value v) w)∧next (a.put o.dst v)
def wpReads (P:Program) (ops:Array Oper) (C:World→Prop) (K:Act→Prop):List Nat→Act→Prop
 |[],a=>K a
 |i::l,a=>match ops[i]? with
  |none=>False
  |some o=>if Region.wanted o (yielded ops a.tmps) then Oper.reads P o a C (wpReads P ops C K l) else wpReads P ops C K l (a.put o.dst undef)
def Region.readsB (md:Region.Mode) (ops:Array Oper) (n:Nat) (r:List Nat):List Nat→Array Bool→Bool
 |[],listed=>Region.numsB md ops r listed
 |i::l,listed=>decide (i<n) && (Region.ready md ops listed).contains i && Region.free md ops listed i && Region.readsB md ops n r l (listed.setIfInBounds i true)
theorem wpAnyK_reads {n:Nat}(hsel:Region.noSelect ops=true) (hs:Region.sinkB md ops n=true) (hc:Region.chainB md ops n=true) (hn:n<ops.size)
  (hQ:∀(c:List PanicEntry) (a:Act) (d:Tmp) (v:Value) (w:World),Q (.panic c) (a.put (some d) v) w→Q (.panic c) a w) (r:List Nat) (w:World) (hC:C w) :
  ∀(l:List Nat) (listed:Array Bool) (a:Act),HeadInv md ops n listed→Region.readsB md ops n r l listed=true→wpReads P ops C (fun a'=>wpNums P ops C n Q r a' w) l a →
   wpAnyK P md ops C n Q (l.length+r.length) listed a w
 |[],listed,a,_,hB,h=>by rw[List.length_nil,Nat.zero_add];exact wpAnyK_nums r listed a w hB h
 |i::l,listed,a,inv,hB,h=>by
  simp only[Region.readsB,Bool.and_eq_true,decide_eq_true_eq]at hB
  obtain⟨⟨⟨hin,hr⟩,hf⟩,hB'⟩:=hB
  have hr':i∈Region.ready md ops listed:=by simpa using hr
  obtain⟨_,o,ho,_⟩:=mem_ready.1 hr'
  simp only[wpReads,ho]at h
  have key:∃v,YieldsW P ops C o v a∧wpReads P ops C (fun a'=>wpNums P ops C n Q r a' w) l (a.put o.dst v):=by
   by_cases hw:Region.wanted o (yielded ops a.tmps)=true
   ·simp only[hw,if_true]at h
    obtain⟨v,h1,h2⟩:=h
    exact⟨v,.inl ⟨hw,h1⟩,h2⟩
   ·simp only[hw]at h
    exact⟨undef,.inr ⟨by simpa using hw,rfl⟩,h⟩
  obtain⟨v,hy,hK⟩:=key
  rw[show (i::l).length+r.length=(l.length+r.length)+1 by simp only[List.length_cons];omega]
  exact wpAnyK_first ho (Region.noSelect_spec hsel) (fun c a w h=>by cases hdst:o.dst with|none=>(rw[hdst]at h;exact h)|some d=>(rw[hdst]at h;exact hQ c a d v w h)) hs hc hn hin (l.length+r.length) listed a w hC inv (Region.free_spec ho hf) hr' hy
   (wpAnyK_reads hsel hs hc hn hQ r w hC l _ _ (inv.set hr' hin) hB' hK)
def Region.mixB (ops:Array Oper) (n:Nat) (hd r:List Nat):Bool:=
 Region.noSelect ops && decide (n<ops.size) && Region.sinkB .any ops n && Region.chainB .any ops n && decide (hd.length+r.length=ops.size) && Region.readsB .any ops n r hd (Array.replicate ops.size false)
theorem wp_region_mix {id:Nat}{a:Act}{w:World}{l:List Oper}(n:Nat) (hd r:List Nat) (C:World→Prop) (hm:P.follows .mixedOrders=true) (hB:Region.mixB l.toArray n hd r=true)
  (hQ:∀(c:List PanicEntry) (a:Act) (d:Tmp) (v:Value) (w:World),Q (.panic c) (a.put (some d) v) w→Q (.panic c) a w) (hC:C w.drew)
  (h:wpReads P l.toArray C (fun a'=>wpNums P l.toArray C n Q r a' w.drew) hd a):(Code.region id l.toArray true).wp P Q a w:=by
 simp only[Region.mixB,Bool.and_eq_true,decide_eq_true_eq]at hB
 obtain⟨⟨⟨⟨⟨hsel,hn⟩,hs⟩,hc⟩,hlen⟩,hR⟩:=hB
 have inv0:HeadInv .any l.toArray n (Array.replicate l.toArray.size false):=
  ⟨by simp,fun j oj _ hl=>(by rw[getD_replicate_false]at hl;cases hl),fun t _ ht=>getD_in (by simpa using ht) (getD_replicate_false _ _)⟩
 have H:=wpAnyK_reads (md:=.any) hsel hs hc hn hQ r w.drew hC hd _ a inv0 hR h
 have H':=wpAny_of_K _ _ _ _ H
 rw[hlen]at H'
 exact wp_region_any hm H'
theorem wpReads_nil {K:Act→Prop}{a:Act}(h:K a):wpReads P ops C K [] a:=h
theorem wpReads_cons {K:Act→Prop}{a:Act}{i:Nat}{l:List Nat}{o:Oper}(ho:ops[i]? = some o)
  (h:∀K':Act→Prop,(∀a,wpReads P ops C K l a→K' a)→if Region.wanted o (yielded ops a.tmps) then Oper.reads P o a C K' else K' (a.put o.dst undef)):wpReads P ops C K (i::l) a:=by
 simp only[wpReads,ho];exact h _ (fun _ h=>h)
theorem wpNums_cons {n:Nat}{a:Act}{w:World}{i:Nat}{l:List Nat}{o:Oper}(ho:ops[i]? = some o)
  (h:wpList P ops (Exit.then (fun a' w'=>(i<n→C w')∧wpNums P ops C n Q l a' w') Q) [o] a w):wpNums P ops C n Q (i::l) a w:=by
 simp only[wpNums,wpOp,ho]
 simp only[wpList]at h
 split
 ·rename_i hw
  rw[if_pos hw]at h
  rcases h with h|⟨h1,h2⟩
  ·refine .inl ?_
   unfold Oper.wp at *
   generalize (execOp a.eval o).run P w=r at *
   cases r with
   |ok n w' =>
    cases n <;> simp only[Oper.upon]at h ⊢
    case value u=>exact h
    case skip=>exact h
    case defer d=>exact h
    case enter f args=>exact Calls.mono h fun e w'' he=>by cases e <;> exact he
    case row row args=>exact h
   |halt x w' =>
    cases x <;> simp only[Oper.upon]at h ⊢
    case panic u=>exact h
  ·exact .inr ⟨h1,h2⟩
 ·rename_i hw
  rw[if_neg hw]at h
  exact h
theorem wpNums_nil {n:Nat}{a:Act}{w:World}(h:Q .normal a w):wpNums P ops C n Q [] a w:=h
end
structure InC (C:World→Prop) where
 w:World
 h:C w
theorem wp_region_in {P:Program}{Q:Exit→Act→World→Prop}{id:Nat}{a:Act}{w:World}{l:List Oper}(n:Nat) (hd r:List Nat) (C:World→Prop) (hm:P.follows .mixedOrders=true) (hB:Region.mixB l.toArray n hd r=true)
  (hQ:∀(c:List PanicEntry) (a:Act) (d:Tmp) (v:Value) (w:World),Q (.panic c) (a.put (some d) v) w→Q (.panic c) a w) (hC:C w.drew)
  (h:wpReads P l.toArray (fun w'=>∃p:InC C,w'=p.w) (fun a'=>wpNums P l.toArray (fun w'=>∃p:InC C,w'=p.w) n Q r a' w.drew) hd a):(Code.region id l.toArray true).wp P Q a w:=
 wp_region_mix n hd r (fun w'=>∃p:InC C,w'=p.w) hm hB hQ ⟨⟨_,hC⟩,rfl⟩ h
attribute [go_sem] Oper.reads
open Go.Sort
set_option maxRecDepth 100000
set_option maxHeartbeats 800000
theorem mayAppend_zero {d:Dsk}{n:Str}{l:List UInt8}(h:d.mayAppend n l=0):okName n=true∧(usedF d.files+l.length:Nat)≤d.most∧(n∉namesF d.files→d.files.length<200):=by
 unfold Dsk.mayAppend at h
 split at h
 ·rename_i hok
  split at h
  ·exact absurd h (by decide)
  ·rename_i hn
   exact⟨hok,by omega,fun hm=>by
    rcases Nat.lt_or_ge d.files.length 200 with h|h
    ·exact h
    ·exact absurd (.inr ⟨hm,h⟩) hn⟩
 ·exact absurd h (by decide)
theorem slice_form {α:Type}{f:α→Value}{e:TypeId}{w:World}{v:Value}{l:List α}(h:RowF f e w v l):∃a cap,v=.slice a l.length cap:=by
 obtain⟨a,cap,h,_⟩:=h.rd.len;exact⟨a,cap,h⟩
theorem own_ne {w:World}{b m:Nat}{d:Dsk}{A B:List FE}{f:FE}(h:DiskAt w b m d (A++f::B)):f.sl.ownBlock≠some b∧f.sl.ownBlock≠some m∧f.sl.ownBlock≠some f.fb:=by
 have hnd:=h.nodup
 rw[dskBlocks_mid]at hnd
 refine⟨fun e=>?_,fun e=>?_,fun e=>?_⟩ <;> rw[e]at hnd
 ·exact (List.nodup_append.1 hnd).2.2 b (by simp) b (by simp) rfl
 ·exact (List.nodup_append.1 hnd).2.2 m (by simp) m (by simp) rfl
 ·exact (List.nodup_cons.1 (List.nodup_append.1 hnd).2.1).1 (by simp)
structure Ready2 (w w3:World) (b m:Nat) (d d3:Dsk) (S:Nat→Prop) (n:Str) (l:List UInt8) (A B:List FE) (f:FE):Prop where
 at3:DiskAt w3 b m d3 (A++f::B)
 name:f.name=n
 nA:n∉A.map FE.name
 ptr:ptrOf (A++f::B) n=some ⟨f.fb,0,none⟩
 goal:({ d3 with files:=setF d3.files n ⟨f.file.bytes++l,f.file.synced⟩ }:Dsk)={ d with files:=setF d.files n ⟨(fileOf d.files n).bytes++l,(fileOf d.files n).synced⟩ }
 only:Only S w w3
 blocks:∀k∈dskBlocks b m (A++f::B),S k∨w.heap.size≤k
 used:(usedF (A.map FE.nf)+(f.file.bytes++l).length+usedF (B.map FE.nf):Nat)≤d3.most
 synced:f.file.synced≤f.file.bytes.length
theorem ptrOf_new {A:List FE}{f:FE}{B:List FE}(hA:f.name∉A.map FE.name):ptrOf (A++f::B) f.name=some ⟨f.fb,0,none⟩:=by
 have hn:A.find? (·.name==f.name)=none:=by
  rw[List.find?_eq_none]
  intro g hg hc
  exact hA (List.mem_map.2 ⟨g,hg,by simpa using hc⟩)
 simp[ptrOf,List.find?_append,hn]
theorem Append2_ok {w:World}{b:Nat}{d:Dsk}{S:Nat→Prop}(h:DiskIn w b d S) (n:Str) (l:List UInt8) (pn pd pb:Nat) (src:Value)
  (hn:w.cell? ⟨pn,0,none⟩=some (.string ⟨n.toArray⟩)) (hd:w.cell? ⟨pd,0,none⟩=some (.pointer (some ⟨b,0,none⟩))) (hb:w.cell? ⟨pb,0,none⟩=some src) (hs:Bs w src l)
  (hsep:l≠[]→∀g,src.ownBlock=some g→¬ S g) (hpn:¬ S pn) (hpd:¬ S pd) (hpb:¬ S pb)
  (hmay:d.mayAppend n l=0) :
  Calls Tryz.prog 87 #[.pointer (some ⟨pd,0,none⟩),.pointer (some ⟨pn,0,none⟩),.pointer (some ⟨pb,0,none⟩)] w fun e w' =>
   e=.returned (.tuple #[])∧DiskTo S w w' b { d with files:=setF d.files n ⟨(fileOf d.files n).bytes++l,(fileOf d.files n).synced⟩ }:=by
 obtain⟨m,fs,hD,hS⟩:=h
 obtain⟨i0,hi,hz0,hz1,hz2⟩:=info_parts Tryz.infoByte
 obtain⟨c0,c1,-,-,-⟩:=hdr_cells hD.hdr
 obtain⟨clock,hmap,hclk⟩:=hD.map
 obtain⟨hok,hroom,hfew⟩:=mayAppend_zero hmay
 have hmost:=hD.ok.most1
 obtain⟨sa,sc,rfl,hll⟩:=hs.len
 have hpnl:pn<w.heap.size:=World.block_lt_of_cell? w _ hn
 have hpdl:pd<w.heap.size:=World.block_lt_of_cell? w _ hd
 have hpbl:pb<w.heap.size:=World.block_lt_of_cell? w _ hb
 have d0:=cellG hn
 have d1:=cellG hd
 have d3:=cellG c0
 have hlk:∀p:Regrown,(Instr.lookup 106 (.map (some m)) (.string ⟨n.toArray⟩) false).run Tryz.prog (grow (redrawn w p.d) p.os)=.ok (.pointer (ptrOf fs n)) (grow (redrawn w p.d) p.os):=fun p =>
  look_file ((Nw.of_regrown ⟨p,rfl⟩:Nw w _).at_ hmap) n
 rcases ptrOf_spec hD n with hcs|hcs
 case' inl =>
  obtain⟨hnn,hp,hg⟩:=hcs
  rw[hp]at hlk
  have HP:=zH hp
  have HM:=zH hmap
  have HCLK:=zH hclk
  have HG:=zH hg
  clear hp hmap hclk hg
  go_enter Tryz.func87,Tryz.ntmps87
  go_wp2
  refine wp_region_quiet_below (by kernel_rfl) (by kernel_rfl) ?_
  repeat (first|go_big_quiet_step (fail)|quiet_step (fail))
  refine wpQuiet_nil ?_
  intro w1 hw1
  have hw1:=Nw.of_regrown hw1
  clear hlk d0 d1 d3
  have n1:=hw1.cell hn
  have e1:=hw1.cell hd
  have b1:=hw1.cell hb
  have s1:=zH (hs.nw hw1)
  have m1:=hw1.at_ HM.out
  have D1:=zH (hD.keep (w':=w1) fun k hk=>hw1.block k (hD.lt k hk) (fun hf=>hf))
  have k0:=hw1.cell c0
  have HN:=zH hw1
  clear hn hd hb hs HM hD c0 c1 hw1
  go_wp2
  have g0:∀p:InC (Nw w1),p.w.cell? ⟨pn,0,none⟩=some (.string ⟨n.toArray⟩):=fun p=>p.h.cell n1
  have g1:∀p:InC (Nw w1),p.w.cell? ⟨pd,0,none⟩=some (.pointer (some ⟨b,0,none⟩)):=fun p=>p.h.cell e1
  have g2:∀p:InC (Nw w1),p.w.cell? ⟨b,0,none⟩=some (.map (some m)):=fun p=>p.h.cell k0
  refine wp_region_in 7 [0,1,2,3,4,5] [6,7] (Nw w1) (by kernel_rfl) (by kernel_rfl) (fun _ _ _ _ _ h=>h) ((Nw.refl _).drew) ?_
  repeat (refine wpReads_cons rfl (fun K hK=>?_);go_simp;first|(refine hK _ ?_;clear hK K)|(refine⟨_,fun _=>rfl,?_⟩;refine hK _ ?_;clear hK K))
  refine wpReads_nil ?_
  refine wpNums_cons rfl ?_
  go_wp2
  refine⟨fun _=>⟨⟨_,((Nw.refl _).alloc _).drew⟩,rfl⟩,?_⟩
  have hw2:Nw w1 (w1.alloc (.cells #[.slice none 0 0,.int .i64 0] 132)).drew:=((Nw.refl _).alloc _).drew
  have hkn:n∉(fs.map FE.en).map En.key:=by
   have h:=hnn;rw[D1.out.files,names_of_FE]at h
   rw[List.map_map];exact h
  have hst:=run_store_miss (P:=Tryz.prog) (L:=fs.map FE.en) Tryz.underlying106 Tryz.underlying9 (hw2.at_ m1) (k:=n) hkn (.pointer (some ⟨w1.heap.size,0,none⟩))
  clear g0 g1 g2
  have HW2:=zH hw2
  have HKN:=zH hkn
  clear hw2 hkn
  refine wpNums_cons rfl ?_
  go_wp2
  refine⟨fun h=>absurd h (by omega),?_⟩
  refine wpNums_nil ?_
  have hsz2:(w1.alloc (.cells #[.slice none 0 0,.int .i64 0] 132)).drew.heap.size=w1.heap.size+1:=by simp
  have hm3:=setBlk_same (o':=.map (ents (fs.map FE.en++[⟨n,.pointer (some ⟨w1.heap.size,0,none⟩),clock⟩])) (clock+1)) (HW2.out.at_ m1)
  have ho3:Only (fun k=>k=m) w1 (World.setBlk (w1.alloc (.cells #[.slice none 0 0,.int .i64 0] 132)).drew m (.map (ents (fs.map FE.en++[⟨n,.pointer (some ⟨w1.heap.size,0,none⟩),clock⟩])) (clock+1))):=
   Only.setBlk (S:=fun k=>k=m) HW2.out.only (fun _=>rfl) _
  have hmw:m<w1.heap.size:=lt_of_block m1
  have hfb3:(World.setBlk (w1.alloc (.cells #[.slice none 0 0,.int .i64 0] 132)).drew m (.map (ents (fs.map FE.en++[⟨n,.pointer (some ⟨w1.heap.size,0,none⟩),clock⟩])) (clock+1))).heap[w1.heap.size]? = some (.cells #[.slice none 0 0,.int .i64 0] 132 (0,0)):=by
   rw[setBlk_other (by omega)];exact heap_alloc_new w1 _
  have hsz3:(World.setBlk (w1.alloc (.cells #[.slice none 0 0,.int .i64 0] 132)).drew m (.map (ents (fs.map FE.en++[⟨n,.pointer (some ⟨w1.heap.size,0,none⟩),clock⟩])) (clock+1))).heap.size=w1.heap.size+1:=by rw[setBlk_size];simp
  generalize World.setBlk (w1.alloc (.cells #[.slice none 0 0,.int .i64 0] 132)).drew m (.map (ents (fs.map FE.en++[⟨n,.pointer (some ⟨w1.heap.size,0,none⟩),clock⟩])) (clock+1))=w3 at hm3 ho3 hfb3 hsz3 ⊢
  have hD1:=D1.out
  have hnA:n∉fs.map FE.name:=by have h:=hnn;rwa [hD1.files,names_of_FE]at h
  have hR:Ready2 w w3 b m d { d with files:=d.files++[(n,⟨[],0⟩)] } S n l fs [] ⟨n,⟨[],0⟩,w1.heap.size,.slice none 0 0,clock⟩:=by
   refine⟨hD1.add n w1.heap.size HCLK.out hm3 hfb3 (Nat.le_refl _) (fun k hk hkm=>ho3.block k hk hkm) hnn hok (hfew hnn),rfl,hnA,ptrOf_new hnA,?_,?_,?_,?_,Nat.le_refl _⟩
   ·have e1:setF d.files n ⟨(fileOf d.files n).bytes++l,(fileOf d.files n).synced⟩=d.files++[(n,⟨[]++l,0⟩)]:=by
     rw[setF_miss hnn];simp[fileOf,HG.out]
    rw[e1]
    show ({ d with files:=setF (d.files++[(n,⟨[],0⟩)]) n ⟨[]++l,0⟩ }:Dsk)=_
    rw[setF_hit hnn]
   ·exact HN.out.only.trans (ho3.mono fun k _ e=>by subst e;exact (hS _).2 (by simp[dskBlocks]))
   ·intro k hk
    have:dskBlocks b m (fs++[⟨n,⟨[],0⟩,w1.heap.size,.slice none 0 0,clock⟩])=dskBlocks b m fs++[w1.heap.size]:=by simp[dskBlocks,FE.blocks,Value.ownBlock]
    rw[this,List.mem_append]at hk
    rcases hk with hk|hk
    ·exact .inl ((hS k).2 hk)
    ·simp at hk;subst hk;exact .inr HN.out.size
   ·have:=hroom
    rw[hD1.files]at this
    simpa [usedF] using this
  have R:Hid (∃d3 A B f,Ready2 w w3 b m d d3 S n l A B f):=⟨_,_,_,_,hR⟩
  have n3:=ho3.cell n1 (fun e=>hpn ((show pn=m from e)▸(hS m).2 (by simp[dskBlocks])))
  have e3:=ho3.cell e1 (fun e=>hpd ((show pd=m from e)▸(hS m).2 (by simp[dskBlocks])))
  have b3:=ho3.cell b1 (fun e=>hpb ((show pb=m from e)▸(hS m).2 (by simp[dskBlocks])))
  have s3:=zH (s1.out.keep ho3 (fun hne g hg e=>hsep hne g hg (e▸(hS m).2 (by simp[dskBlocks]))))
  clear hD1 hnA hR hst HW2 HKN hm3 ho3 hfb3 hsz3 hsz2 hmw n1 e1 b1 s1 m1 k0 HP HG HCLK HN D1
  clear clock
 case' inr =>
  obtain⟨A,f,B,hfs,hfn,hnA,hp,hnn,hg⟩:=hcs
  rw[hp]at hlk
  have HM:=zH hmap
  clear hmap hclk
  go_enter Tryz.func87,Tryz.ntmps87
  go_wp2
  refine wp_region_quiet_below (by kernel_rfl) (by kernel_rfl) ?_
  repeat (first|go_big_quiet_step (fail)|quiet_step (fail))
  refine wpQuiet_nil ?_
  intro w3 hw1
  have hw1:=Nw.of_regrown hw1
  clear hlk d0 d1 d3
  have n3:=hw1.cell hn
  have e3:=hw1.cell hd
  have b3:=hw1.cell hb
  have s3:=zH (hs.nw hw1)
  have hf:=hD.file f (by rw[hfs];simp)
  have hfo:fileOf d.files n=f.file:=by simp[fileOf,hg]
  have hmem:d.files=A.map FE.nf++(f.name,f.file)::B.map FE.nf:=by rw[hD.files,hfs,nf_mid]
  have hR:Ready2 w w3 b m d d S n l A B f:=by
   refine⟨?_,hfn,hnA,?_,by rw[hfo],hw1.only,fun k hk=>.inl ((hS k).2 (by rw[hfs];exact hk)),?_,?_⟩
   ·rw[←hfs];exact hD.keep (w':=w3) fun k hk=>hw1.block k (hD.lt k hk) (fun hf=>hf)
   ·rw[←hfs];exact hp
   ·have:=hroom
    rw[hmem,usedF_mid]at this
    rw[List.length_append];omega
   ·exact hD.ok.synced (f.name,f.file) (by rw[hmem];simp)
  have R:Hid (∃d3 A B f,Ready2 w w3 b m d d3 S n l A B f):=⟨_,_,_,_,hR⟩
  clear hR hf hfo hmem hn hd hb hs hD c0 c1 hw1 hfs hfn hnA hp hg HM hnn
 all_goals
  go_wp2
  obtain⟨d3,A',B',f',hR⟩:=R.out
  have hD3:=hR.at3
  have hbl:=hR.blocks
  obtain⟨k3,-,-,-,-⟩:=hdr_cells hD3.hdr
  obtain⟨clk,map3,-⟩:=hD3.map
  have hf3:=hD3.mem
  obtain⟨fa,fc,hsl⟩:=slice_form hf3.own
  have f0:w3.cell? ⟨f'.fb,0,none⟩=some f'.sl:=by simp[World.cell?,hf3.blk]
  obtain⟨nb,nm,nf⟩:=own_ne hD3
  have hne:∀x:Nat,¬ S x→x<w.heap.size→f'.sl.ownBlock≠some x:=fun x hx hlt e=>by
   rcases hbl x (by rw[dskBlocks_mid];simp[e]) with h|h
   ·exact hx h
   ·omega
  have n4:=hne pn hpn hpnl
  have d4:=hne pd hpd hpdl
  have b4:=hne pb hpb hpbl
  have fused:=hR.used
  have hmost3:=hD3.ok.most1
  rw[List.length_append]at fused
  have hl1:f'.file.bytes.length+l.length≤16777216:=by omega
  have hrow:RowF u8 5 w3.drew (.slice fa f'.file.bytes.length fc) f'.file.bytes:=by rw[←hsl];exact hf3.own.keep (fun g hg=>rfl)
  have hsrc:Rd u8 w3.drew (.slice sa l.length sc) l:=s3.out.nw ((Nw.refl w3).drew)
  have hown:(Value.slice fa f'.file.bytes.length fc).ownBlock=f'.sl.ownBlock:=by rw[hsl]
  rw[hsl]at f0
  have hlk3:∀p:InC (Only (fun k=>f'.sl.ownBlock=some k) w3),(Instr.lookup 106 (.map (some m)) (.string ⟨n.toArray⟩) false).run Tryz.prog p.w=.ok (.pointer (some ⟨f'.fb,0,none⟩)) p.w:=fun p=>by
   rw[←hR.ptr];exact look_file (p.h.at_ map3 nm) n
  have g0:∀p:InC (Only (fun k=>f'.sl.ownBlock=some k) w3),p.w.cell? ⟨pn,0,none⟩=some (.string ⟨n.toArray⟩):=fun p=>p.h.cell n3 n4
  have g1:∀p:InC (Only (fun k=>f'.sl.ownBlock=some k) w3),p.w.cell? ⟨pd,0,none⟩=some (.pointer (some ⟨b,0,none⟩)):=fun p=>p.h.cell e3 d4
  have g2:∀p:InC (Only (fun k=>f'.sl.ownBlock=some k) w3),p.w.cell? ⟨b,0,none⟩=some (.map (some m)):=fun p=>p.h.cell k3 nb
  have g3:∀p:InC (Only (fun k=>f'.sl.ownBlock=some k) w3),p.w.cell? ⟨pb,0,none⟩=some (.slice sa l.length sc):=fun p=>p.h.cell b3 b4
  have g4:∀p:InC (Only (fun k=>f'.sl.ownBlock=some k) w3),p.w.cell? ⟨f'.fb,0,none⟩=some (.slice fa f'.file.bytes.length fc):=fun p=>p.h.cell f0 nf
  have HR:=zH hR
  have HD:=zH hD3
  have HF:=zH hf3
  have HS:=zH hsl
  have HW:=zH hown
  have HB:=zH hbl
  have HROW:=zH hrow
  have HSRC:=zH hsrc
  have HNF:=zH nf
  have HF0:=zH f0
  clear hR hD3 hf3 hsl hown hbl hrow hsrc nb nm nf hne n4 d4 b4 k3 map3 n3 e3 b3 f0 R hmay hroom hfew hsep hpn hpd hpb hpnl hpdl hpbl fused
  refine wp_region_in 19 [0,1,2,3,4,5,6,7,8,9,10,11,12,13,14,15] [16,17,18,19] (Only (fun k=>f'.sl.ownBlock=some k) w3) (by kernel_rfl) (by kernel_rfl) (fun _ _ _ _ _ h=>h) ((Only.refl _).drew) ?_
  repeat (refine wpReads_cons rfl (fun K hK=>?_);go_simp;first|(refine hK _ ?_;clear hK K)|(refine⟨_,fun _=>rfl,?_⟩;refine hK _ ?_;clear hK K))
  refine wpReads_nil ?_
  refine wpNums_cons rfl ?_
  refine wpList_append_row u8_one rfl _ _ 79 rfl 5 i0 (.int .u8 0) 1 Tryz.underlying79 hi hz0 hz1 hz2 rfl rfl rfl HROW.out HSRC.out (by unfold maxLen;omega) (by omega) ?_
  intro v' w4 hr4 ho4 hfr hnil
  obtain⟨va,vc,rfl⟩:=slice_form hr4
  have hC4:Only (fun k=>f'.sl.ownBlock=some k) w3 w4:=((Only.refl w3).drew).trans (by rw[←HW.out];exact ho4)
  have HR4:=zH hr4
  have HFR:=zH hfr
  have HC4:=zH hC4
  have f4:w4.heap[f'.fb]? = some (.cells #[f'.sl,.int .i64 f'.file.synced] 132 (0,0)):=hC4.at_ HF.out.blk HNF.out
  have q1:w4.cell? ⟨f'.fb,0,none⟩=some (.slice fa f'.file.bytes.length fc):=by rw[←HS.out];simp[World.cell?,f4]
  have q2:w4.frozen? ⟨f'.fb,0,none⟩=false:=by simp[World.frozen?,f4]
  have HF4:=zH f4
  clear hr4 ho4 hfr hnil hC4 f4 hlk3 g0 g1 g2 g3 g4
  refine wpList_nil ?_
  go_wp2
  refine⟨fun _=>⟨⟨w4,HC4.out⟩,rfl⟩,?_⟩
  refine wpNums_cons rfl ?_
  go_wp2
  refine⟨fun _=>⟨⟨w4,HC4.out⟩,rfl⟩,?_⟩
  refine wpNums_cons rfl ?_
  go_wp2
  refine⟨fun _=>⟨⟨w4,HC4.out⟩,rfl⟩,?_⟩
  refine wpNums_cons rfl ?_
  go_wp2
  refine⟨fun h=>absurd h (by omega),?_⟩
  refine wpNums_nil ?_
  go_wp2
  refine bodyPost_end (results_none rfl _ _ _) rfl ⟨rfl,?_⟩
  have hlen:(Value.slice va (f'.file.bytes.length+l.length) vc)=.slice va (f'.file.bytes++l).length vc:=by rw[List.length_append]
  rw[hlen]
  have hf3l:f'.fb<w3.heap.size:=lt_of_block HF.out.blk
  have hsl':(Value.slice va (f'.file.bytes++l).length vc).ownBlock=f'.sl.ownBlock∨∀k,(Value.slice va (f'.file.bytes++l).length vc).ownBlock=some k→w3.heap.size≤k:=by
   rcases HFR.out with h|h
   ·exact .inl (h.trans HW.out)
   ·exact .inr h
  have hto:=HD.out.upd (w':=w4.setCell ⟨f'.fb,0,none⟩ (.slice va (f'.file.bytes++l).length vc)) ⟨f'.file.bytes++l,f'.file.synced⟩ (.slice va (f'.file.bytes++l).length vc)
   (fun k hk hn=>by
    simp only[FE.blocks,List.mem_cons,Option.mem_toList,not_or]at hn
    rw[Below.heap_setCell _ _ _ _ hn.1];exact HC4.out.block k hk hn.2)
   ⟨by rw[heap_setCell_at HF4.out 0 _];simp,HR4.out.keep fun g hg=>by
    rw[Below.heap_setCell]
    rintro e
    have e':g=f'.fb:=e
    rcases hsl' with h|h
    ·exact HNF.out (by rw[←h,hg,e'])
    ·have:=h g hg;omega⟩
   hsl' (by rw[HR.out.name];exact HR.out.nA) (by show f'.file.synced≤(f'.file.bytes++l).length;rw[List.length_append];have:=HR.out.synced;omega) HR.out.used
  have hto0:=hto
  have hgoal:=HR.out.goal
  have hto':DiskAt (w4.setCell ⟨f'.fb,0,none⟩ (.slice va (f'.file.bytes++l).length vc)) b m { d with files:=setF d.files n ⟨(fileOf d.files n).bytes++l,(fileOf d.files n).synced⟩ } (A'++{ f' with file:=⟨f'.file.bytes++l,f'.file.synced⟩,sl:=.slice va (f'.file.bytes++l).length vc }::B'):=by rw[←hgoal,←HR.out.name];exact hto0
  refine⟨_,⟨m,_,hto',fun k=>Iff.rfl⟩,?_,?_⟩
  ·refine HR.out.only.trans' ((HC4.out.mono (T:=fun k=>k∈f'.blocks) fun k _ e=>by simp[FE.blocks,e]).setCell (fun _=>by simp[FE.blocks]) _) fun k hk hkf=>?_
   rcases HB.out k (by simp only[dskBlocks,List.mem_cons,List.mem_flatMap];exact .inr (.inr ⟨f',by simp,hkf⟩)) with h|h
   ·exact h
   ·omega
  ·intro k hk
   rcases blocks_upd hsl' k hk with h|h
   ·exact HB.out k h
   ·exact .inr (Nat.le_trans HR.out.only.size h)
theorem DiskIn.out {S:Nat→Prop}{w:World}{b:Nat}{d:Dsk}(h:DiskIn w b d S){x:Nat}(hx:w.heap.size≤x):¬ S x:=fun hs=>by
 have:=h.lt x hs;omega
theorem en51:Enters Tryz.prog 85:=enters_of Tryz.func85 (by kernel_rfl) (by kernel_rfl)
theorem en53:Enters Tryz.prog 87:=enters_of Tryz.func87 (by kernel_rfl) (by kernel_rfl)
def Turns (S:Nat→Prop) (w:World) (b:Nat) (r:Dsk×Int) (e:Ending) (w':World):Prop:=e=.returned (.int .i64 r.2)∧DiskTo S w w' b r.1
theorem Append_ok {w:World}{b:Nat}{d:Dsk}{S:Nat→Prop}(h:DiskIn w b d S) (n:Str) (l:List UInt8) (src:Value) (hs:Bs w src l) (hsep:l≠[]→∀g,src.ownBlock=some g→¬ S g)
  (hnl:n.length≤9223372036854775807) (hll:l.length≤140737488355328) :
  Calls Tryz.prog 38 #[.pointer (some ⟨b,0,none⟩),.string ⟨n.toArray⟩,src] w (Turns S w b (d.append n l)):=by
 obtain⟨sa,sc,rfl,-⟩:=hs.len
 have hwB:Nw w (((w.alloc (.cells #[.pointer (some ⟨b,0,none⟩)] 25)).alloc (.cells #[.string ⟨n.toArray⟩] 9)).alloc (.cells #[.slice sa l.length sc] 79)):=(((Nw.refl w).alloc _).alloc _).alloc _
 have hB:=h.nw hwB
 have f1:¬ S w.heap.size:=h.out (Nat.le_refl _)
 have f2:¬ S (w.heap.size+1):=h.out (by omega)
 have f3:¬ S (w.heap.size+1+1):=h.out (by omega)
 have c1:(((w.alloc (.cells #[.pointer (some ⟨b,0,none⟩)] 25)).alloc (.cells #[.string ⟨n.toArray⟩] 9)).alloc (.cells #[.slice sa l.length sc] 79)).cell? ⟨w.heap.size,0,none⟩=some (.pointer (some ⟨b,0,none⟩)):=by
  simp[go_sem]
 have c2:(((w.alloc (.cells #[.pointer (some ⟨b,0,none⟩)] 25)).alloc (.cells #[.string ⟨n.toArray⟩] 9)).alloc (.cells #[.slice sa l.length sc] 79)).cell? ⟨w.heap.size+1,0,none⟩=some (.string ⟨n.toArray⟩):=by
  simp[go_sem]
 have c3:(((w.alloc (.cells #[.pointer (some ⟨b,0,none⟩)] 25)).alloc (.cells #[.string ⟨n.toArray⟩] 9)).alloc (.cells #[.slice sa l.length sc] 79)).cell? ⟨w.heap.size+1+1,0,none⟩=some (.slice sa l.length sc):=by
  simp[go_sem]
 have H:=operation_ok hB 85 87 #[.pointer (some ⟨w.heap.size+1,0,none⟩),.pointer (some ⟨w.heap.size,0,none⟩),.pointer (some ⟨w.heap.size+1+1,0,none⟩)]
  #[.pointer (some ⟨w.heap.size,0,none⟩),.pointer (some ⟨w.heap.size+1,0,none⟩),.pointer (some ⟨w.heap.size+1+1,0,none⟩)] (d.mayAppend n l) (fun L=>setF L n ⟨(fileOf L n).bytes++l,(fileOf L n).synced⟩) en51 en53
  (fun _=>Append1_ok hB n l _ _ _ _ c2 c1 c3 (hs.nw hwB) hnl hll)
  (fun hm _ w1 ho hd=>Append2_ok hd n l _ _ _ _ (ho.cell c2 f2) (ho.cell c1 f1) (ho.cell c3 f3) ((hs.nw hwB).keep ho hsep) hsep f2 f1 f3 hm)
 have HH:=zH H
 have HW:=zH hwB
 clear H hwB hB h hs hsep c1 c2 c3 f1 f2 f3
 go_enter Tryz.func38,Tryz.ntmps38
 go_wp2_with (go_at_call 84;refine HH.out.mono ?_)
 rintro e w2 ⟨rfl,hw2⟩
 go_wp2
 go_ret
 exact⟨rfl,DiskTo.trans HW.out.only hw2⟩
theorem there_split {w:World}{b m:Nat}{d:Dsk}{fs:List FE}(hD:DiskAt w b m d fs){n:Str}(h:d.there n=0) :
  ∃A f B,fs=A++f::B∧f.name=n∧n∉A.map FE.name∧ptrOf fs n=some ⟨f.fb,0,none⟩∧fileOf d.files n=f.file∧d.files=A.map FE.nf++(n,f.file)::B.map FE.nf:=by
 rcases ptrOf_spec hD n with ⟨hnn,-,-⟩|⟨A,f,B,hfs,hfn,hnA,hp,-,hg⟩
 ·simp[Dsk.there,hnn]at h
 ·exact⟨A,f,B,hfs,hfn,hnA,hp,by simp[fileOf,hg],by rw[hD.files,hfs,nf_mid,hfn]⟩
theorem turn_file {w w1 w2:World}{b m:Nat}{d:Dsk}{A B:List FE}{f:FE}{S:Nat→Prop}{n:Str}(hD:DiskAt w b m d (A++f::B)) (hS:∀k,S k↔k∈dskBlocks b m (A++f::B)) (hw1:Nw w w1)
  (hfn:f.name=n) (hnA:n∉A.map FE.name) (g:DFile) (sl:Value)
  (ho:∀k,k<w1.heap.size→k∉f.blocks→w2.heap[k]? = w1.heap[k]?) (ho2:Only (fun k=>k∈f.blocks) w1 w2)
  (hf:FE.At w2 { f with file:=g,sl:=sl }) (hsl:sl.ownBlock=f.sl.ownBlock∨∀k,sl.ownBlock=some k→w1.heap.size≤k)
  (hs:g.synced≤g.bytes.length) (hu:g.bytes.length≤f.file.bytes.length):DiskTo S w w2 b { d with files:=setF d.files n g }:=by
 have hD1:DiskAt w1 b m d (A++f::B):=hD.keep fun k hk=>hw1.block k (hD.lt k hk) (fun hf=>hf)
 have hused:=hD.ok.used
 rw[hD.files,nf_mid,usedF_mid]at hused
 have hto:=hD1.upd g sl ho hf hsl (by rw[hfn];exact hnA) hs (by omega)
 rw[hfn]at hto
 refine⟨_,⟨m,_,hto,fun k=>Iff.rfl⟩,?_,?_⟩
 ·exact hw1.only.trans (ho2.mono fun k _ hk=>(hS k).2 (by simp only[dskBlocks,List.mem_cons,List.mem_flatMap];exact .inr (.inr ⟨f,by simp,hk⟩)))
 ·intro k hk
  have hk':k∈dskBlocks b m (A++{ f with file:=g,sl:=sl }::B):=by rw[hfn]at *;exact hk
  rcases blocks_upd hsl k hk' with h|h
  ·exact .inl ((hS k).2 h)
  ·exact .inr (Nat.le_trans hw1.size h)
theorem Sync2_ok {w:World}{b:Nat}{d:Dsk}{S:Nat→Prop}(h:DiskIn w b d S) (n:Str) (pn pd:Nat)
  (hn:w.cell? ⟨pn,0,none⟩=some (.string ⟨n.toArray⟩)) (hd:w.cell? ⟨pd,0,none⟩=some (.pointer (some ⟨b,0,none⟩))) (hth:d.there n=0) :
  Calls Tryz.prog 133 #[.pointer (some ⟨pd,0,none⟩),.pointer (some ⟨pn,0,none⟩)] w fun e w' =>
   e=.returned (.tuple #[])∧DiskTo S w w' b { d with files:=setF d.files n ⟨(fileOf d.files n).bytes,(fileOf d.files n).bytes.length⟩ }:=by
 obtain⟨m,fs,hD,hS⟩:=h
 obtain⟨c0,c1,-,-,-⟩:=hdr_cells hD.hdr
 obtain⟨clock,hmap,hclk⟩:=hD.map
 obtain⟨A,f,B,rfl,hfn,hnA,hp,hfo,-⟩:=there_split hD hth
 rw[hfo]
 have hf:=hD.mem
 obtain⟨fa,fc,hsl⟩:=slice_form hf.own
 have d0:=cellG hn
 have d1:=cellG hd
 have d3:=cellG c0
 have f0:w.cell? ⟨f.fb,0,none⟩=some (.slice fa f.file.bytes.length fc):=by rw[←hsl];simp[World.cell?,hf.blk]
 have d4:=cellG f0
 have hlk:∀p:Regrown,(Instr.lookup 106 (.map (some m)) (.string ⟨n.toArray⟩) false).run Tryz.prog (grow (redrawn w p.d) p.os)=.ok (.pointer (some ⟨f.fb,0,none⟩)) (grow (redrawn w p.d) p.os):=fun p=>by
  rw[←hp];exact look_file ((Nw.of_regrown ⟨p,rfl⟩:Nw w _).at_ hmap) n
 have HD:=zH hD
 have HS:=zH hS
 have HF:=zH hf
 have HN:=zH hfn
 have HA:=zH hnA
 clear hD hS hf hfn hnA hp hfo hsl hmap hclk hn hd c0 c1 f0 hth
 go_enter Tryz.func133,Tryz.ntmps133
 refine wp_region_tail_below 16 (by kernel_rfl) (by kernel_rfl) ?_
 simp only[List.take_succ_cons,List.take_zero,List.drop_succ_cons,List.drop_zero]
 repeat (first|go_big_quiet_step (fail)|quiet_step (fail))
 refine wpQuiet_nil ?_
 intro w1 hw1
 have hw1:=Nw.of_regrown hw1
 have hb1:=hw1.at_ HF.out.blk
 have q1:w1.cell? ⟨f.fb,1,none⟩=some (.int .i64 f.file.synced):=by simp[World.cell?,hb1]
 have q2:w1.frozen? ⟨f.fb,1,none⟩=false:=by simp[World.frozen?,hb1]
 have HB:=zH hb1
 have HW:=zH hw1
 clear hlk d0 d1 d3 d4 hb1 hw1
 go_wp2
 refine bodyPost_end (results_none rfl _ _ _) rfl ⟨rfl,?_⟩
 refine turn_file HD.out HS.out HW.out HN.out HA.out ⟨f.file.bytes,f.file.bytes.length⟩ f.sl ?_ ?_ ⟨?_,?_⟩ (.inl rfl) (Nat.le_refl _) (Nat.le_refl _)
 ·intro k hk hkn
  simp only[FE.blocks,List.mem_cons,not_or]at hkn
  rw[Below.heap_setCell _ _ _ _ hkn.1]
 ·exact (Only.refl w1).setCell (fun _=>by simp[FE.blocks]) _
 ·rw[heap_setCell_at HB.out 1 _];simp
 ·refine (HF.out.own.keep (w':=w1) fun g hg=>HW.out.block g (HF.out.own.lt g hg) (fun hf=>hf)).keep fun g hg=>?_
  rw[Below.heap_setCell]
  intro e
  exact (own_ne HD.out).2.2 (by rw[hg];exact congrArg some e)
theorem left_ok {w:World}{fb L c k:Nat}{fa:Option Addr}{y:Int}(hb:w.heap[fb]? = some (.cells #[.slice fa L c,.int .i64 y] 132 (0,0))) (hk:k≤L) (hL:L≤c) (_hc:c≤9223372036854775807) (_hn:fa=none→c=0) :
  Calls Tryz.prog 82 #[.pointer (some ⟨fb,0,none⟩),.int .i64 k] w fun e w'=>e=.returned (.tuple #[])∧w'=(w.setCell ⟨fb,0,none⟩ (.slice fa k k)).setCell ⟨fb,1,none⟩ (.int .i64 k):=by
 have q0:w.cell? ⟨fb,0,none⟩=some (.slice fa L c):=by simp[World.cell?,hb]
 have q1:w.cell? ⟨fb,1,none⟩=some (.int .i64 y):=by simp[World.cell?,hb]
 have q2:∀i,w.frozen? ⟨fb,i,none⟩=false:=by simp[World.frozen?,hb]
 have hkc:k≤c:=by omega
 clear hb
 go_enter Tryz.func82,Tryz.ntmps82
 go_wp2
 exact bodyPost_end (results_none rfl _ _ _) rfl ⟨rfl,rfl⟩
theorem left_row {w:World}{v:Value}{l:List UInt8}{e:TypeId}{fa:Option Addr}{c:Nat}(h:RowF u8 e w v l) (hv:v=.slice fa l.length c) (k:Nat) (hk:k≤l.length) :
  RowF u8 e w (.slice fa k k) (l.take k)∧(Value.slice fa k k).ownBlock=v.ownBlock∧l.length≤c∧c≤maxLen∧(fa=none→c=0):=by
 rcases h with ⟨rfl,rfl⟩|⟨g,cap,cur,rfl,h1,h2,h3,h4,h5⟩
 ·cases hv
  have:k=0:=by simpa using hk
  subst this
  exact⟨RowF.nil,rfl,by simp,by simp,fun _=>rfl⟩
 ·cases hv
  refine⟨.inr ⟨g,k,cur,by rw[List.length_take,Nat.min_eq_left hk],h1,by rw[List.length_take];omega,by omega,by omega,?_⟩,rfl,h2,h4,fun h=>by cases h⟩
  rw[List.length_take,Nat.min_eq_left hk,List.map_take,←h5,List.take_take,Nat.min_eq_left hk]
theorem left_turn {w w1:World}{b m:Nat}{d:Dsk}{A B:List FE}{f:FE}{S:Nat→Prop}{n:Str}(hD:DiskAt w b m d (A++f::B)) (hS:∀k,S k↔k∈dskBlocks b m (A++f::B)) (hw1:Nw w w1)
  (hfn:f.name=n) (hnA:n∉A.map FE.name) (k:Nat) (hk:k≤f.file.bytes.length) :
  Calls Tryz.prog 82 #[.pointer (some ⟨f.fb,0,none⟩),.int .i64 k] w1 fun e w'=>e=.returned (.tuple #[])∧DiskTo S w w' b { d with files:=setF d.files n ⟨f.file.bytes.take k,k⟩ }:=by
 have hf:=hD.mem
 obtain⟨fa,fc,hsl⟩:=slice_form hf.own
 have hf1:FE.At w1 f:=hf.keep fun g hg=>hw1.block g (by
  simp only[FE.blocks,List.mem_cons,Option.mem_toList]at hg
  rcases hg with rfl|hg
  ·exact lt_of_block hf.blk
  ·exact hf.own.lt g hg) (fun hf=>hf)
 obtain⟨hr,hob,h1,h2,h3⟩:=left_row hf1.own hsl k hk
 have hb1:=hf1.blk
 rw[hsl]at hb1
 refine (left_ok hb1 hk h1 (by unfold maxLen at h2;omega) h3).mono ?_
 rintro e w' ⟨he,rfl⟩
 refine⟨he,turn_file hD hS hw1 hfn hnA ⟨f.file.bytes.take k,k⟩ (.slice fa k k) ?_ ?_ ⟨?_,?_⟩ (.inl hob) (by show k≤(f.file.bytes.take k).length;rw[List.length_take];omega) (by show (f.file.bytes.take k).length≤_;rw[List.length_take];omega)⟩
 ·intro j hj hjn
  simp only[FE.blocks,List.mem_cons,not_or]at hjn
  rw[Below.heap_setCell _ _ _ _ hjn.1,Below.heap_setCell _ _ _ _ hjn.1]
 ·exact ((Only.refl w1).setCell (fun _=>by simp[FE.blocks]) _).setCell (fun _=>by simp[FE.blocks]) _
 ·rw[heap_setCell_at (heap_setCell_at hb1 0 _) 1 _];simp
 ·refine RowF.keep hr fun g hg=>?_
  have hne:g≠f.fb:=fun e=>(own_ne hD).2.2 (by rw[←hob,hg,e])
  rw[Below.heap_setCell _ _ _ _ hne,Below.heap_setCell _ _ _ _ hne]
theorem Cut2_ok {w:World}{b:Nat}{d:Dsk}{S:Nat→Prop}(h:DiskIn w b d S) (n:Str) (k:Int) (pn pd pk:Nat)
  (hn:w.cell? ⟨pn,0,none⟩=some (.string ⟨n.toArray⟩)) (hd:w.cell? ⟨pd,0,none⟩=some (.pointer (some ⟨b,0,none⟩))) (hkc:w.cell? ⟨pk,0,none⟩=some (.int .i64 k)) (hm:d.mayCut n k=0) :
  Calls Tryz.prog 105 #[.pointer (some ⟨pd,0,none⟩),.pointer (some ⟨pn,0,none⟩),.pointer (some ⟨pk,0,none⟩)] w fun e w' =>
   e=.returned (.tuple #[])∧DiskTo S w w' b { d with files:=setF d.files n ⟨(fileOf d.files n).bytes.take k.toNat,k.toNat⟩ }:=by
 have hth:d.there n=0∧0≤k∧k≤(fileOf d.files n).bytes.length:=by
  unfold Dsk.mayCut at hm
  cases hg:getF d.files n with
  |none=>rw[hg]at hm;simp at hm
  |some f =>
   rw[hg]at hm
   have h2:¬ (k<0∨(f.bytes.length:Int)<k):=fun hc=>by simp only[if_pos hc]at hm;exact absurd hm (by decide)
   refine⟨?_,by omega,by simp only[fileOf,hg,Option.getD_some];omega⟩
   by_cases hmem:n∈namesF d.files
   ·simp[Dsk.there,hmem]
   ·rw[getF_miss hmem]at hg;cases hg
 obtain⟨hth,hk0,hk1⟩:=hth
 obtain⟨k,rfl⟩:=Int.eq_ofNat_of_zero_le hk0
 rw[Int.toNat_natCast]
 obtain⟨m,fs,hD,hS⟩:=h
 obtain⟨c0,c1,-,-,-⟩:=hdr_cells hD.hdr
 obtain⟨clock,hmap,hclk⟩:=hD.map
 obtain⟨A,f,B,rfl,hfn,hnA,hp,hfo,-⟩:=there_split hD hth
 rw[hfo]at hk1 ⊢
 have hk2:k≤f.file.bytes.length:=by omega
 have d0:=cellG hn
 have d1:=cellG hd
 have d2:=cellG hkc
 have d3:=cellG c0
 have hlk:∀p:Regrown,(Instr.lookup 106 (.map (some m)) (.string ⟨n.toArray⟩) false).run Tryz.prog (grow (redrawn w p.d) p.os)=.ok (.pointer (some ⟨f.fb,0,none⟩)) (grow (redrawn w p.d) p.os):=fun p=>by
  rw[←hp];exact look_file ((Nw.of_regrown ⟨p,rfl⟩:Nw w _).at_ hmap) n
 have HL:Hid (∀w1,Nw w w1→Calls Tryz.prog 82 #[.pointer (some ⟨f.fb,0,none⟩),.int .i64 k] w1 fun e w'=>e=.returned (.tuple #[])∧DiskTo S w w' b { d with files:=setF d.files n ⟨f.file.bytes.take k,k⟩ }):=
  fun w1 hw1=>left_turn hD hS hw1 hfn hnA k hk2
 clear hD hS hfn hnA hp hfo hmap hclk hn hd hkc c0 c1 hth hm hk0 hk1 hk2
 go_enter Tryz.func105,Tryz.ntmps105
 refine wp_region_tail_below 7 (by kernel_rfl) (by kernel_rfl) ?_
 simp only[List.take_succ_cons,List.take_zero,List.drop_succ_cons,List.drop_zero]
 repeat (first|go_big_quiet_step (fail)|quiet_step (fail))
 refine wpQuiet_nil ?_
 intro w1 hw1
 have hw1:=Nw.of_regrown hw1
 clear hlk d0 d1 d2 d3
 go_wp2_with (go_at_call 82;refine (HL.out w1 hw1).mono ?_;rintro e w' ⟨rfl,hto⟩)
 exact bodyPost_end (results_none rfl _ _ _) rfl ⟨rfl,hto⟩
end Go.Proofs.YtkbenkldfehhlaaGreatDoor
