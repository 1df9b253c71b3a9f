/-
  Texts merged by a program of this claim's: DiskN, DiskO, DiskP, DiskQ, Low, Facts.
-/
import Derived.Test.YtkbenkldfehhlaaGreatDoorM4
import Derived.Laws.IdiomStrings
import Derived.Laws.BytesArg
namespace Go.Proofs.YtkbenkldfehhlaaGreatDoor
open Go Go.RowKit
theorem blocks_of {b m:Nat}{fs:List FE}{f:FE}(hf:f∈fs){k:Nat}(hk:k∈f.blocks):k∈dskBlocks b m fs:=by
 simp only[dskBlocks,List.mem_cons,List.mem_flatMap];exact .inr (.inr ⟨f,hf,hk⟩)
theorem DiskAt.drop {w w':World}{b m clock:Nat}{d:Dsk}{A B:List FE}{f:FE}(h:DiskAt w b m d (A++f::B)) (hclk:∀x∈A++f::B,x.born<clock)
  (hm:w'.heap[m]? = some (.map (ents ((A++B).map FE.en)) clock)) (ho:∀k,k<w.heap.size→k≠m→w'.heap[k]? = w.heap[k]?) (hA:f.name∉A.map FE.name) :
  DiskAt w' b m { d with files:=delF d.files f.name } (A++B)∧f.At w'∧(∀k∈f.blocks,k∉dskBlocks b m (A++B))∧f.blocks.Nodup:=by
 have hfile:d.files=A.map FE.nf++(f.name,f.file)::B.map FE.nf:=by rw[h.files,nf_mid]
 have hdel:delF d.files f.name=A.map FE.nf++B.map FE.nf:=by
  rw[hfile];exact delF_hit (by rw[names_of_FE];exact hA)
 have hnd:=h.nodup
 have hlt:=h.lt
 have hbm:b≠m:=by simp only[dskBlocks,List.nodup_cons,List.mem_cons,not_or]at hnd;exact hnd.1.1
 have hmf:∀x∈A++f::B,m∉x.blocks:=by
  simp only[dskBlocks,List.nodup_cons,List.mem_cons,List.mem_flatMap,not_or]at hnd
  exact fun x hx hc=>hnd.2.1 ⟨x,hx,hc⟩
 have keepF:∀x∈A++f::B,x.At w':=fun x hx=>(h.file x hx).keep fun k hk=>ho k (hlt k (blocks_of hx hk)) (fun e=>hmf x hx (e▸hk))
 have hsub:(dskBlocks b m (A++B)).Sublist (dskBlocks b m (A++f::B)):=by
  rw[dskBlocks_mid,dskBlocks_two]
  exact List.Sublist.append_left ((List.sublist_append_right _ _).trans (List.sublist_cons_self _ _)) _
 have hmem:∀x∈A++B,x∈A++f::B:=fun x hx=>by
  simp only[List.mem_append,List.mem_cons]at hx ⊢
  rcases hx with hx|hx
  ·exact .inl hx
  ·exact .inr (.inr hx)
 have hmid:=hnd
 rw[dskBlocks_mid]at hmid
 have e:(b::m::A.flatMap FE.blocks)++f.fb::(f.sl.ownBlock.toList++B.flatMap FE.blocks)=(b::m::A.flatMap FE.blocks)++(f.blocks++B.flatMap FE.blocks):=by simp[FE.blocks]
 rw[e,List.nodup_append]at hmid
 refine⟨⟨?_,⟨clock,hm,fun x hx=>hclk x (hmem x hx)⟩,?_,fun x hx=>keepF x (hmem x hx),hsub.nodup hnd,?_,?_⟩,keepF f (by simp),?_,?_⟩
 ·rw[ho b (hlt b (by simp[dskBlocks])) hbm];exact h.hdr
 ·show delF d.files f.name=_
  rw[hdel,List.map_append]
 ·have:((A++B).map FE.born).Sublist ((A++f::B).map FE.born):=(List.Sublist.append_left (List.sublist_cons_self _ _) _).map _
  exact this.nodup h.born
 ·rw[hdel];exact h.ok.del hfile
 ·intro k hk hc
  rw[dskBlocks_two,List.mem_append]at hc
  rcases hc with hc|hc
  ·exact hmid.2.2 k hc k (List.mem_append_left _ hk) rfl
  ·exact (List.nodup_append.1 hmid.2.1).2.2 k hk k hc rfl
 ·exact (List.nodup_append.1 hmid.2.1).1
theorem DiskAt.put_new {w w':World}{b m clock:Nat}{d:Dsk}{fs:List FE}(h:DiskAt w b m d fs){f:FE}(tn:Str) (hf:f.At w) (hdis:∀k∈f.blocks,k∉dskBlocks b m fs) (hnd:f.blocks.Nodup) (hclk:∀x∈fs,x.born<clock)
  (hm:w'.heap[m]? = some (.map (ents (fs.map FE.en++[⟨tn,.pointer (some ⟨f.fb,0,none⟩),clock⟩])) (clock+1))) (ho:∀k,k<w.heap.size→k≠m→w'.heap[k]? = w.heap[k]?)
  (ok:({ d with files:=d.files++[(tn,f.file)] }:Dsk).Ok):DiskAt w' b m { d with files:=d.files++[(tn,f.file)] } (fs++[{ f with name:=tn,born:=clock }]):=by
 have hnd0:=h.nodup
 have hlt:=h.lt
 have hbm:b≠m:=by simp only[dskBlocks,List.nodup_cons,List.mem_cons,not_or]at hnd0;exact hnd0.1.1
 have hmf:∀x∈fs,m∉x.blocks:=by
  simp only[dskBlocks,List.nodup_cons,List.mem_cons,List.mem_flatMap,not_or]at hnd0
  exact fun x hx hc=>hnd0.2.1 ⟨x,hx,hc⟩
 have hflt:∀k∈f.blocks,k<w.heap.size:=fun k hk=>by
  simp only[FE.blocks,List.mem_cons,Option.mem_toList]at hk
  rcases hk with rfl|hk
  ·exact lt_of_block hf.blk
  ·exact hf.own.lt k hk
 refine⟨?_,⟨clock+1,?_,?_⟩,?_,?_,?_,?_,ok⟩
 ·rw[ho b (hlt b (by simp[dskBlocks])) hbm];exact h.hdr
 ·rw[hm];simp[FE.en]
 ·intro x hx
  simp only[List.mem_append,List.mem_singleton]at hx
  rcases hx with hx|rfl
  ·have:=hclk x hx;omega
  ·exact Nat.lt_succ_self _
 ·show d.files++_=_
  rw[h.files];simp[FE.nf]
 ·intro x hx
  simp only[List.mem_append,List.mem_singleton]at hx
  rcases hx with hx|rfl
  ·exact (h.file x hx).keep fun k hk=>ho k (hlt k (blocks_of hx hk)) (fun e=>hmf x hx (e▸hk))
  ·have h1:f.At w':=hf.keep fun k hk=>ho k (hflt k hk) (fun e=>hdis k hk (by rw[e];simp[dskBlocks]))
   exact⟨h1.blk,h1.own⟩
 ·have:dskBlocks b m (fs++[{ f with name:=tn,born:=clock }])=dskBlocks b m fs++f.blocks:=by simp[dskBlocks,FE.blocks]
  rw[this,List.nodup_append]
  exact⟨hnd0,hnd,fun k hk c hc e=>hdis c hc (e▸hk)⟩
 ·rw[List.map_append,List.nodup_append]
  refine⟨h.born,by simp,?_⟩
  intro k hk c hc e
  obtain⟨x,hx,rfl⟩:=List.mem_map.1 hk
  simp at hc
  have:=hclk x hx
  omega
theorem DiskAt.put_over {w w':World}{b m clock:Nat}{d:Dsk}{A B:List FE}{g:FE}(h:DiskAt w b m d (A++g::B)){f:FE}(hf:f.At w) (hdis:∀k∈f.blocks,k∉dskBlocks b m (A++g::B)) (hnd:f.blocks.Nodup) (hclk:∀x∈A++g::B,x.born<clock)
  (hm:w'.heap[m]? = some (.map (ents (A.map FE.en++⟨g.name,.pointer (some ⟨f.fb,0,none⟩),g.born⟩::B.map FE.en)) clock)) (ho:∀k,k<w.heap.size→k≠m→w'.heap[k]? = w.heap[k]?)
  (hA:g.name∉A.map FE.name) (ok:({ d with files:=setF d.files g.name f.file }:Dsk).Ok):DiskAt w' b m { d with files:=setF d.files g.name f.file } (A++{ f with name:=g.name,born:=g.born }::B):=by
 have hnd0:=h.nodup
 have hlt:=h.lt
 have hbm:b≠m:=by simp only[dskBlocks,List.nodup_cons,List.mem_cons,not_or]at hnd0;exact hnd0.1.1
 have hmf:∀x∈A++g::B,m∉x.blocks:=by
  simp only[dskBlocks,List.nodup_cons,List.mem_cons,List.mem_flatMap,not_or]at hnd0
  exact fun x hx hc=>hnd0.2.1 ⟨x,hx,hc⟩
 have hflt:∀k∈f.blocks,k<w.heap.size:=fun k hk=>by
  simp only[FE.blocks,List.mem_cons,Option.mem_toList]at hk
  rcases hk with rfl|hk
  ·exact lt_of_block hf.blk
  ·exact hf.own.lt k hk
 have hset:setF d.files g.name f.file=A.map FE.nf++(g.name,f.file)::B.map FE.nf:=by
  rw[h.files,nf_mid];exact setF_hit (by rw[names_of_FE];exact hA)
 have keepX:∀x∈A++g::B,x.At w':=fun x hx=>(h.file x hx).keep fun k hk=>ho k (hlt k (blocks_of hx hk)) (fun e=>hmf x hx (e▸hk))
 refine⟨?_,⟨clock,?_,?_⟩,?_,?_,?_,?_,ok⟩
 ·rw[ho b (hlt b (by simp[dskBlocks])) hbm];exact h.hdr
 ·rw[hm];simp[FE.en]
 ·intro x hx
  simp only[List.mem_append,List.mem_cons]at hx
  rcases hx with hx|rfl|hx
  ·exact hclk x (by simp[hx])
  ·exact hclk g (by simp)
  ·exact hclk x (by simp[hx])
 ·show setF d.files g.name f.file=_
  rw[hset,nf_mid]
 ·intro x hx
  simp only[List.mem_append,List.mem_cons]at hx
  rcases hx with hx|rfl|hx
  ·exact keepX x (by simp[hx])
  ·have h1:f.At w':=hf.keep fun k hk=>ho k (hflt k hk) (fun e=>hdis k hk (by rw[e];simp[dskBlocks]))
   exact⟨h1.blk,h1.own⟩
  ·exact keepX x (by simp[hx])
 ·have e1:dskBlocks b m (A++{ f with name:=g.name,born:=g.born }::B)=(b::m::A.flatMap FE.blocks)++(f.blocks++B.flatMap FE.blocks):=by simp[dskBlocks,FE.blocks]
  have e2:dskBlocks b m (A++g::B)=(b::m::A.flatMap FE.blocks)++(g.blocks++B.flatMap FE.blocks):=by simp[dskBlocks,FE.blocks]
  rw[e2]at hnd0 hdis
  rw[e1]
  simp only[List.nodup_append]at hnd0 ⊢
  obtain⟨n1,⟨n2,n3,n4⟩,n5⟩:=hnd0
  refine⟨n1,⟨hnd,n3,?_⟩,?_⟩
  ·intro k hk c hc e
   exact hdis k hk (List.mem_append_right _ (List.mem_append_right _ (e▸hc)))
  ·intro k hk c hc e
   rw[List.mem_append]at hc
   rcases hc with hc|hc
   ·exact hdis c hc (List.mem_append_left _ (e▸hk))
   ·exact n5 k hk c (List.mem_append_right _ hc) e
 ·have:(A++{ f with name:=g.name,born:=g.born }::B).map FE.born=(A++g::B).map FE.born:=by simp
  rw[this];exact h.born
theorem Dsk.Ok.rename {d:Dsk}(ok:d.Ok){a t:Str}(ha:a∈namesF d.files) (ht:okName t=true):({ d with files:=setF (delF d.files a) t (fileOf d.files a) }:Dsk).Ok:=by
 rcases split_name a d.files with h|⟨A,f,B,hd,hA⟩
 ·exact absurd ha h
 ·have hfo:fileOf d.files a=f:=by rw[hd];simp[fileOf,getF_hit hA]
  have hdl:delF d.files a=A++B:=by rw[hd];exact delF_hit hA
  have ok1:=ok.del hd
  have hus:=ok.used
  rw[hd,usedF_mid]at hus
  have hsy:=ok.synced (a,f) (by rw[hd];simp)
  have hfew:=ok.few
  rw[hd]at hfew
  rw[hdl,hfo]
  rcases split_name t (A++B) with h|⟨A',g,B',hd',hA'⟩
  ·rw[setF_miss h]
   refine⟨ok.most0,ok.most1,ok.arm0,ok.arm1,?_,?_,?_,?_,?_⟩
   ·show (namesF ((A++B)++[(t,f)])).Nodup
    rw[namesF_append,List.nodup_append]
    refine⟨ok1.names,by simp[namesF],?_⟩
    intro x hx c hc e
    simp[namesF]at hc
    subst hc;subst e;exact h hx
   ·intro k hk
    have hk':k∈namesF ((A++B)++[(t,f)]):=hk
    rw[namesF_append,List.mem_append]at hk'
    rcases hk' with hk|hk
    ·exact ok1.named k hk
    ·simp[namesF]at hk;subst hk;exact ht
   ·show ((A++B)++[(t,f)]).length≤200
    simp at hfew ⊢;omega
   ·show ((usedF ((A++B)++[(t,f)]):Nat):Int)≤d.most
    rw[usedF_append,usedF_append]
    simp only[usedF,List.map_cons,List.map_nil,List.sum_cons,List.sum_nil]at hus ⊢
    omega
   ·intro x hx
    have hx':x∈(A++B)++[(t,f)]:=hx
    rw[List.mem_append]at hx'
    rcases hx' with hx|hx
    ·exact ok1.synced x hx
    ·simp at hx;subst hx;exact hsy
  ·rw[hd',setF_hit hA']
   have h1:({ d with files:=A++B }:Dsk).files=A'++(t,g)::B':=hd'
   have:=ok1.upd (g:=f) h1 hsy (by
    have e:usedF (A++B)=usedF A'+g.bytes.length+usedF B':=by rw[hd',usedF_mid]
    rw[usedF_append]at e
    show ((usedF A'+f.bytes.length+usedF B':Nat):Int)≤d.most
    omega)
   exact this
open Go.Sort
set_option maxRecDepth 100000
set_option maxHeartbeats 800000
theorem en_keys (fs:List FE):(fs.map FE.en).map En.key=fs.map FE.name:=by rw[List.map_map];rfl
theorem Remove2_ok {w:World}{b:Nat}{d:Dsk}{S:Nat→Prop}(h:DiskIn w b d S) (n:Str) (pn pd:Nat)
  (hn:w.cell? ⟨pn,0,none⟩=some (.string ⟨n.toArray⟩)) (hd:w.cell? ⟨pd,0,none⟩=some (.pointer (some ⟨b,0,none⟩))) (hth:d.there n=0) :
  Calls Tryz.prog 107 #[.pointer (some ⟨pd,0,none⟩),.pointer (some ⟨pn,0,none⟩)] w fun e w' =>
   e=.returned (.tuple #[])∧DiskTo S w w' b { d with files:=delF d.files n }:=by
 obtain⟨m,fs,hD,hS⟩:=h
 obtain⟨c0,c1,-,-,-⟩:=hdr_cells hD.hdr
 obtain⟨clock,hmap,hclk⟩:=hD.map
 obtain⟨A,f,B,rfl,hfn,hnA,hp,hfo,-⟩:=there_split hD hth
 have d0:=cellG hn
 have d1:=cellG hd
 have d3:=cellG c0
 have HD:=zH hD
 have HS:=zH hS
 have HN:=zH hfn
 have HA:=zH hnA
 have HM:=zH hmap
 have HC:=zH hclk
 clear hD hS hfn hnA hp hfo hmap hclk hn hd c0 c1 hth
 go_enter Tryz.func107,Tryz.ntmps107
 refine wp_region_tail_below 5 (by kernel_rfl) (by kernel_rfl) ?_
 simp only[List.take_succ_cons,List.take_zero,List.drop_succ_cons,List.drop_zero]
 repeat (first|go_big_quiet_step (fail)|quiet_step (fail))
 refine wpQuiet_nil ?_
 intro w1 hw1
 have hw1:=Nw.of_regrown hw1
 have hm1:=hw1.at_ HM.out
 have hmap1:=hm1
 rw[List.map_append,List.map_cons]at hmap1
 have hdel:=fun ty=>run_drop_hit (P:=Tryz.prog) (A:=A.map FE.en) (B:=B.map FE.en) (e:=f.en) (k:=n) ty Tryz.underlying106 Tryz.underlying9 hmap1 (by rw[←HN.out];rfl) (by rw[en_keys];exact HA.out)
 have HW:=zH hw1
 have HM1:=zH hm1
 clear d0 d1 d3 hw1 hm1 hmap1
 go_wp2
 refine bodyPost_end (results_none rfl _ _ _) rfl ⟨rfl,?_⟩
 have hD1:DiskAt w1 b m d (A++f::B):=HD.out.keep fun k hk=>HW.out.block k (HD.out.lt k hk) (fun hf=>hf)
 have hto:=(hD1.drop (w':=World.setBlk w1 m (.map (ents (A.map FE.en++B.map FE.en)) clock)) HC.out (by rw[setBlk_same HM1.out,List.map_append]) (fun k _ hk=>setBlk_other hk) (by rw[HN.out];exact HA.out)).1
 rw[HN.out]at hto
 refine⟨_,⟨m,_,hto,fun k=>Iff.rfl⟩,?_,?_⟩
 ·exact Only.setBlk HW.out.only (fun _=>(HS.out m).2 (by simp[dskBlocks])) _
 ·intro k hk
  refine .inl ((HS.out k).2 ?_)
  rw[dskBlocks_two]at hk
  rw[dskBlocks_mid]
  simp only[List.mem_append,List.mem_cons]at hk ⊢
  rcases hk with hk|hk
  ·exact .inl hk
  ·exact .inr (.inr (.inr hk))
theorem Rename2_ok {w:World}{b:Nat}{d:Dsk}{S:Nat→Prop}(h:DiskIn w b d S) (n t:Str) (pn pd pt:Nat)
  (hn:w.cell? ⟨pn,0,none⟩=some (.string ⟨n.toArray⟩)) (hd:w.cell? ⟨pd,0,none⟩=some (.pointer (some ⟨b,0,none⟩))) (ht:w.cell? ⟨pt,0,none⟩=some (.string ⟨t.toArray⟩))
  (hpn:¬ S pn) (hpd:¬ S pd) (hpt:¬ S pt) (hth:d.mayRename n t=0) :
  Calls Tryz.prog 153 #[.pointer (some ⟨pd,0,none⟩),.pointer (some ⟨pn,0,none⟩),.pointer (some ⟨pt,0,none⟩)] w fun e w' =>
   e=.returned (.tuple #[])∧DiskTo S w w' b { d with files:=setF (delF d.files n) t (fileOf d.files n) }:=by
 have hokt:okName t=true∧d.there n=0:=by
  unfold Dsk.mayRename at hth
  split at hth
  ·exact⟨by assumption,hth⟩
  ·exact absurd hth (by decide)
 obtain⟨hokt,hth⟩:=hokt
 have hmemn:n∈namesF d.files:=by
  by_cases hm:n∈namesF d.files
  ·exact hm
  ·simp[Dsk.there,hm]at hth
 obtain⟨m,fs,hD,hS⟩:=h
 obtain⟨c0,c1,-,-,-⟩:=hdr_cells hD.hdr
 obtain⟨clock,hmap,hclk⟩:=hD.map
 obtain⟨A,f,B,rfl,hfn,hnA,hp,hfo,-⟩:=there_split hD hth
 have hmn:¬ (pn=m):=fun e=>hpn (by rw[e];exact (hS m).2 (by simp[dskBlocks]))
 have hmd:¬ (pd=m):=fun e=>hpd (by rw[e];exact (hS m).2 (by simp[dskBlocks]))
 have hmt:¬ (pt=m):=fun e=>hpt (by rw[e];exact (hS m).2 (by simp[dskBlocks]))
 have hbm:¬ (b=m):=by have:=hD.nodup;simp only[dskBlocks,List.nodup_cons,List.mem_cons,not_or]at this;exact this.1.1
 have d0:=cellG hn
 have d1:=cellG hd
 have d3:=cellG c0
 have hlk:∀p:Regrown,(Instr.lookup 106 (.map (some m)) (.string ⟨n.toArray⟩) false).run Tryz.prog (grow (redrawn w p.d) p.os)=.ok (.pointer (some ⟨f.fb,0,none⟩)) (grow (redrawn w p.d) p.os):=fun p=>by
  rw[←hp];exact look_file ((Nw.of_regrown ⟨p,rfl⟩:Nw w _).at_ hmap) n
 have HOK:=zH (hD.ok.rename hmemn hokt)
 have HFO:=zH hfo
 have HD:=zH hD
 have HS:=zH hS
 have HN:=zH hfn
 have HA:=zH hnA
 have HM:=zH hmap
 have HC:=zH hclk
 have HX:Hid (w.cell? ⟨pd,0,none⟩=some (.pointer (some ⟨b,0,none⟩))∧w.cell? ⟨pt,0,none⟩=some (.string ⟨t.toArray⟩)∧w.cell? ⟨b,0,none⟩=some (.map (some m))):=⟨hd,ht,c0⟩
 clear hD hS hfn hnA hp hfo hmap hclk hth hokt hmemn hpn hpd hpt c1
 go_enter Tryz.func153,Tryz.ntmps153
 go_wp2
 refine wp_region_quiet_below (by kernel_rfl) (by kernel_rfl) ?_
 repeat (first|go_big_quiet_step (fail)|quiet_step (fail))
 refine wpQuiet_nil ?_
 intro w0 hw0
 have hw0:=Nw.of_regrown hw0
 clear hlk d0 d1 d3
 have n0:=hw0.cell hn
 have e0:=hw0.cell hd
 have t0:=hw0.cell ht
 have k0:=hw0.cell c0
 have HW0:=zH hw0
 clear hn hd ht c0 hw0
 go_wp2
 have d0:=cellG n0
 have d1:=cellG e0
 have d3:=cellG k0
 refine wp_region_tail_below 5 (by kernel_rfl) (by kernel_rfl) ?_
 simp only[List.take_succ_cons,List.take_zero,List.drop_succ_cons,List.drop_zero]
 repeat (first|go_big_quiet_step (fail)|quiet_step (fail))
 refine wpQuiet_nil ?_
 intro w1 hw1
 have hw1:=HW0.out.trans (Nw.of_regrown hw1)
 have hm1:=hw1.at_ HM.out
 have hmap1:=hm1
 rw[List.map_append,List.map_cons]at hmap1
 have hdel:=fun ty=>run_drop_hit (P:=Tryz.prog) (A:=A.map FE.en) (B:=B.map FE.en) (e:=f.en) (k:=n) ty Tryz.underlying106 Tryz.underlying9 hmap1 (by rw[←HN.out];rfl) (by rw[en_keys];exact HA.out)
 have hD1:DiskAt w1 b m d (A++f::B):=HD.out.keep fun k hk=>hw1.block k (HD.out.lt k hk) (fun hf=>hf)
 have hdrop:=hD1.drop (w':=World.setBlk w1 m (.map (ents (A.map FE.en++B.map FE.en)) clock)) HC.out (by rw[setBlk_same hm1,List.map_append]) (fun k _ hk=>setBlk_other hk) (by rw[HN.out];exact HA.out)
 have hm2:=setBlk_same (o':=.map (ents (A.map FE.en++B.map FE.en)) clock) hm1
 have ho2:Only (fun k=>k=m) w (World.setBlk w1 m (.map (ents (A.map FE.en++B.map FE.en)) clock)):=Only.setBlk (S:=fun k=>k=m) hw1.only (fun _=>rfl) _
 have HW1:=zH hw1
 have HP:=zH hdrop
 have HM2:=zH hm2
 have HO2:=zH ho2
 have e2:=ho2.cell HX.out.1 hmd
 have t2:=ho2.cell HX.out.2.1 hmt
 have k2:=ho2.cell HX.out.2.2 hbm
 clear d0 d1 d3 hw1 hm1 hmap1 hD1 hdrop hm2 ho2 n0 e0 t0 k0
 go_wp2
 generalize World.setBlk w1 m (.map (ents (A.map FE.en++B.map FE.en)) clock)=w2 at e2 t2 k2 HP HM2 HO2 ⊢
 have d1:=cellG e2
 have d2:=cellG t2
 have d3:=cellG k2
 refine wp_region_tail_below 6 (by kernel_rfl) (by kernel_rfl) ?_
 simp only[List.take_succ_cons,List.take_zero,List.drop_succ_cons,List.drop_zero]
 repeat (first|go_big_quiet_step (fail)|quiet_step (fail))
 refine wpQuiet_nil ?_
 intro w3 hw3
 have hw3:=Nw.of_regrown hw3
 have hm3:=hw3.at_ HM2.out
 have hD2:=HP.out.1
 have hD3:DiskAt w3 b m _ (A++B):=hD2.keep (w':=w3) fun k hk=>hw3.block k (hD2.lt k hk) (fun hf=>hf)
 have hf3:f.At w3:=HP.out.2.1.keep fun k hk=>hw3.block k (by
  simp only[FE.blocks,List.mem_cons,Option.mem_toList]at hk
  rcases hk with rfl|hk
  ·exact lt_of_block HP.out.2.1.blk
  ·exact HP.out.2.1.own.lt k hk) (fun hf=>hf)
 have hm3':w3.heap[m]? = some (.map (ents ((A++B).map FE.en)) clock):=by rw[List.map_append];exact hm3
 have hclk3:∀x∈A++B,x.born<clock:=fun x hx=>HC.out x (by simp only[List.mem_append,List.mem_cons]at hx ⊢;rcases hx with hx|hx;exact .inl hx;exact .inr (.inr hx))
 have hfiles:delF d.files n=(A++B).map FE.nf:=by have:=hD3.files;rw[HN.out]at this;exact this
 have hsub:∀k,k∈dskBlocks b m (A++B)∨k∈f.blocks→k∈dskBlocks b m (A++f::B):=by
  intro k hk
  rw[dskBlocks_two]at hk
  rw[dskBlocks_mid]
  simp only[List.mem_append,List.mem_cons,FE.blocks]at hk ⊢
  rcases hk with (hk|hk)|hk|hk
  ·exact .inl hk
  ·exact .inr (.inr (.inr hk))
  ·exact .inr (.inl hk)
  ·exact .inr (.inr (.inl hk))
 have HM3:=zH hm3'
 have HD3:=zH hD3
 have HF3:=zH hf3
 have HW3:=zH hw3
 have HC3:=zH hclk3
 have HFI:=zH hfiles
 have HSUB:=zH hsub
 have honly:Only S w w3:=(HO2.out.mono (T:=S) fun k _ e=>by subst e;exact (HS.out _).2 (by simp[dskBlocks])).trans hw3.only
 have HON:=zH honly
 rcases split_key t ((A++B).map FE.en) with hk|⟨A2,e,B2,hAB,hek,hA2⟩
 ·have hst:=run_store_miss (P:=Tryz.prog) (L:=(A++B).map FE.en) Tryz.underlying106 Tryz.underlying9 hm3' hk (.pointer (some ⟨f.fb,0,none⟩))
  have HK:=zH hk
  generalize hL:(A++B).map FE.en=L2 at hst
  have HL:=zH hL
  clear d1 d2 d3 hw3 hm3 hD2 hD3 hf3 hk hm3' hclk3 hfiles hsub honly hL
  go_wp2
  refine bodyPost_end (results_none rfl _ _ _) rfl ⟨rfl,?_⟩
  have htn:t∉namesF (delF d.files n):=by rw[HFI.out,names_of_FE,←en_keys];exact HK.out
  have hset:setF (delF d.files n) t (fileOf d.files n)=delF d.files n++[(t,f.file)]:=by rw[setF_miss htn,HFO.out]
  have hok:=HOK.out
  rw[hset]at hok ⊢
  have hD3':=HD3.out
  rw[HN.out]at hD3'
  have hto:=hD3'.put_new (w':=World.setBlk w3 m (.map (ents (L2++[⟨t,.pointer (some ⟨f.fb,0,none⟩),clock⟩])) (clock+1))) t HF3.out HP.out.2.2.1 HP.out.2.2.2
   HC3.out (by rw[setBlk_same HM3.out,HL.out]) (fun k _ hk=>setBlk_other hk) hok
  refine⟨_,⟨m,_,hto,fun k=>Iff.rfl⟩,?_,?_⟩
  ·exact Only.setBlk HON.out (fun _=>(HS.out m).2 (by simp[dskBlocks])) _
  ·intro k hk
   refine .inl ((HS.out k).2 (HSUB.out k ?_))
   have e:dskBlocks b m (A++B++[{ f with name:=t,born:=clock }])=dskBlocks b m (A++B)++f.blocks:=by simp[dskBlocks,FE.blocks]
   rw[e,List.mem_append]at hk
   exact hk
 ·obtain⟨A3,B4,hAB3,hA3,h2⟩:=List.map_eq_append_iff.1 hAB
  obtain⟨g,B3,hB4,hg,hB3⟩:=List.map_eq_cons_iff.1 h2
  subst hB4
  have hgn:g.name=t:=by rw[←hek,←hg];rfl
  have hmap3:w3.heap[m]? = some (.map (ents (A2++e::B2)) clock):=by rw[←hAB];exact hm3'
  have hst:=run_store_hit (P:=Tryz.prog) Tryz.underlying106 Tryz.underlying9 hmap3 hek hA2 (.pointer (some ⟨f.fb,0,none⟩))
  have HX3:Hid (A++B=A3++g::B3∧A3.map FE.en=A2∧B3.map FE.en=B2∧g.en=e∧g.name=t∧t∉A3.map FE.name):=⟨hAB3,hA3,hB3,hg,hgn,by rw[←en_keys,hA3];exact hA2⟩
  have hborn:e.born=g.born:=by rw[←hg];rfl
  rw[hborn]at hst
  clear d1 d2 d3 hw3 hm3 hD2 hD3 hf3 hm3' hclk3 hfiles hsub honly hmap3 hgn hB3 hg h2 hAB3 hAB hek hA2 hborn hA3
  go_wp2
  refine bodyPost_end (results_none rfl _ _ _) rfl ⟨rfl,?_⟩
  obtain⟨x1,x2,x3,x4,x5,x6⟩:=HX3.out
  have hok:=HOK.out
  rw[HFO.out]at hok ⊢
  have hD3':=HD3.out
  have hdis:=HP.out.2.2.1
  have hcl:=HC3.out
  rw[HN.out]at hD3'
  rw[x1]at hD3' hdis hcl
  rw[←x5]at hok ⊢
  have hto:=hD3'.put_over (w':=World.setBlk w3 m (.map (ents (A2++⟨g.name,.pointer (some ⟨f.fb,0,none⟩),g.born⟩::B2)) clock)) HF3.out hdis HP.out.2.2.2
   hcl (by rw[setBlk_same HM3.out,x2,x3]) (fun k _ hk=>setBlk_other hk) (by rw[x5];exact x6) hok
  refine⟨_,⟨m,_,hto,fun k=>Iff.rfl⟩,?_,?_⟩
  ·exact Only.setBlk HON.out (fun _=>(HS.out m).2 (by simp[dskBlocks])) _
  ·intro k hk
   refine .inl ((HS.out k).2 (HSUB.out k ?_))
   rw[x1]
   have e1:dskBlocks b m (A3++{ f with name:=g.name,born:=g.born }::B3)=(b::m::A3.flatMap FE.blocks)++(f.blocks++B3.flatMap FE.blocks):=by simp[dskBlocks,FE.blocks]
   have e2:dskBlocks b m (A3++g::B3)=(b::m::A3.flatMap FE.blocks)++(g.blocks++B3.flatMap FE.blocks):=by simp[dskBlocks,FE.blocks]
   rw[e1]at hk
   rw[e2]
   simp only[List.mem_append]at hk ⊢
   rcases hk with hk|hk|hk
   ·exact .inl (.inl hk)
   ·exact .inr hk
   ·exact .inl (.inr (.inr hk))
theorem Sync_ok {w:World}{b:Nat}{d:Dsk}{S:Nat→Prop}(h:DiskIn w b d S) (n:Str) :
  Calls Tryz.prog 78 #[.pointer (some ⟨b,0,none⟩),.string ⟨n.toArray⟩] w (Turns S w b (d.sync n)):=by
 have hwB:Nw w ((w.alloc (.cells #[.pointer (some ⟨b,0,none⟩)] 25)).alloc (.cells #[.string ⟨n.toArray⟩] 9)):=((Nw.refl w).alloc _).alloc _
 have hB:=h.nw hwB
 have f1:¬ S w.heap.size:=h.out (Nat.le_refl _)
 have f2:¬ S (w.heap.size+1):=h.out (by omega)
 have c1:((w.alloc (.cells #[.pointer (some ⟨b,0,none⟩)] 25)).alloc (.cells #[.string ⟨n.toArray⟩] 9)).cell? ⟨w.heap.size,0,none⟩=some (.pointer (some ⟨b,0,none⟩)):=by simp[go_sem]
 have c2:((w.alloc (.cells #[.pointer (some ⟨b,0,none⟩)] 25)).alloc (.cells #[.string ⟨n.toArray⟩] 9)).cell? ⟨w.heap.size+1,0,none⟩=some (.string ⟨n.toArray⟩):=by simp[go_sem]
 have H:=operation_ok hB 132 133 #[.pointer (some ⟨w.heap.size,0,none⟩),.pointer (some ⟨w.heap.size+1,0,none⟩)]
  #[.pointer (some ⟨w.heap.size,0,none⟩),.pointer (some ⟨w.heap.size+1,0,none⟩)] (d.there n) (fun L=>setF L n ⟨(fileOf L n).bytes,(fileOf L n).bytes.length⟩)
  (enters_of Tryz.func132 (by kernel_rfl) (by kernel_rfl)) (enters_of Tryz.func133 (by kernel_rfl) (by kernel_rfl))
  (fun _=>Sync1_ok hB n _ _ c2 c1) (fun hm _ w1 ho hd=>Sync2_ok hd n _ _ (ho.cell c2 f2) (ho.cell c1 f1) hm)
 have HH:=zH H
 have HW:=zH hwB
 clear H hwB hB h c1 c2 f1 f2
 go_enter Tryz.func78,Tryz.ntmps78
 go_wp2_with (go_at_call 84;refine HH.out.mono ?_)
 rintro e w2 ⟨rfl,hw2⟩
 go_wp2
 go_ret
 exact⟨rfl,DiskTo.trans HW.out.only hw2⟩
theorem Remove_ok {w:World}{b:Nat}{d:Dsk}{S:Nat→Prop}(h:DiskIn w b d S) (n:Str) :
  Calls Tryz.prog 57 #[.pointer (some ⟨b,0,none⟩),.string ⟨n.toArray⟩] w (Turns S w b (d.remove n)):=by
 have hwB:Nw w ((w.alloc (.cells #[.pointer (some ⟨b,0,none⟩)] 25)).alloc (.cells #[.string ⟨n.toArray⟩] 9)):=((Nw.refl w).alloc _).alloc _
 have hB:=h.nw hwB
 have f1:¬ S w.heap.size:=h.out (Nat.le_refl _)
 have f2:¬ S (w.heap.size+1):=h.out (by omega)
 have c1:((w.alloc (.cells #[.pointer (some ⟨b,0,none⟩)] 25)).alloc (.cells #[.string ⟨n.toArray⟩] 9)).cell? ⟨w.heap.size,0,none⟩=some (.pointer (some ⟨b,0,none⟩)):=by simp[go_sem]
 have c2:((w.alloc (.cells #[.pointer (some ⟨b,0,none⟩)] 25)).alloc (.cells #[.string ⟨n.toArray⟩] 9)).cell? ⟨w.heap.size+1,0,none⟩=some (.string ⟨n.toArray⟩):=by simp[go_sem]
 have H:=operation_ok hB 106 107 #[.pointer (some ⟨w.heap.size,0,none⟩),.pointer (some ⟨w.heap.size+1,0,none⟩)]
  #[.pointer (some ⟨w.heap.size,0,none⟩),.pointer (some ⟨w.heap.size+1,0,none⟩)] (d.there n) (fun L=>delF L n)
  (enters_of Tryz.func106 (by kernel_rfl) (by kernel_rfl)) (enters_of Tryz.func107 (by kernel_rfl) (by kernel_rfl))
  (fun _=>Remove1_ok hB n _ _ c2 c1) (fun hm _ w1 ho hd=>Remove2_ok hd n _ _ (ho.cell c2 f2) (ho.cell c1 f1) hm)
 have HH:=zH H
 have HW:=zH hwB
 clear H hwB hB h c1 c2 f1 f2
 go_enter Tryz.func57,Tryz.ntmps57
 go_wp2_with (go_at_call 84;refine HH.out.mono ?_)
 rintro e w2 ⟨rfl,hw2⟩
 go_wp2
 go_ret
 exact⟨rfl,DiskTo.trans HW.out.only hw2⟩
theorem Rename_ok {w:World}{b:Nat}{d:Dsk}{S:Nat→Prop}(h:DiskIn w b d S) (n t:Str) (htl:t.length≤9223372036854775807) :
  Calls Tryz.prog 121 #[.pointer (some ⟨b,0,none⟩),.string ⟨n.toArray⟩,.string ⟨t.toArray⟩] w (Turns S w b (d.rename n t)):=by
 have hwB:Nw w (((w.alloc (.cells #[.pointer (some ⟨b,0,none⟩)] 25)).alloc (.cells #[.string ⟨n.toArray⟩] 9)).alloc (.cells #[.string ⟨t.toArray⟩] 9)):=(((Nw.refl w).alloc _).alloc _).alloc _
 have hB:=h.nw hwB
 have f1:¬ S w.heap.size:=h.out (Nat.le_refl _)
 have f2:¬ S (w.heap.size+1):=h.out (by omega)
 have f3:¬ S (w.heap.size+1+1):=h.out (by omega)
 have c1:(((w.alloc (.cells #[.pointer (some ⟨b,0,none⟩)] 25)).alloc (.cells #[.string ⟨n.toArray⟩] 9)).alloc (.cells #[.string ⟨t.toArray⟩] 9)).cell? ⟨w.heap.size,0,none⟩=some (.pointer (some ⟨b,0,none⟩)):=by simp[go_sem]
 have c2:(((w.alloc (.cells #[.pointer (some ⟨b,0,none⟩)] 25)).alloc (.cells #[.string ⟨n.toArray⟩] 9)).alloc (.cells #[.string ⟨t.toArray⟩] 9)).cell? ⟨w.heap.size+1,0,none⟩=some (.string ⟨n.toArray⟩):=by simp[go_sem]
 have c3:(((w.alloc (.cells #[.pointer (some ⟨b,0,none⟩)] 25)).alloc (.cells #[.string ⟨n.toArray⟩] 9)).alloc (.cells #[.string ⟨t.toArray⟩] 9)).cell? ⟨w.heap.size+1+1,0,none⟩=some (.string ⟨t.toArray⟩):=by simp[go_sem]
 have H:=operation_ok hB 152 153 #[.pointer (some ⟨w.heap.size+1+1,0,none⟩),.pointer (some ⟨w.heap.size,0,none⟩),.pointer (some ⟨w.heap.size+1,0,none⟩)]
  #[.pointer (some ⟨w.heap.size,0,none⟩),.pointer (some ⟨w.heap.size+1,0,none⟩),.pointer (some ⟨w.heap.size+1+1,0,none⟩)] (d.mayRename n t) (fun L=>setF (delF L n) t (fileOf L n))
  (enters_of Tryz.func152 (by kernel_rfl) (by kernel_rfl)) (enters_of Tryz.func153 (by kernel_rfl) (by kernel_rfl))
  (fun _=>Rename1_ok hB n t _ _ _ c2 c1 c3 htl) (fun hm _ w1 ho hd=>Rename2_ok hd n t _ _ _ (ho.cell c2 f2) (ho.cell c1 f1) (ho.cell c3 f3) f2 f1 f3 hm)
 have HH:=zH H
 have HW:=zH hwB
 clear H hwB hB h c1 c2 c3 f1 f2 f3
 go_enter Tryz.func121,Tryz.ntmps121
 go_wp2_with (go_at_call 84;refine HH.out.mono ?_)
 rintro e w2 ⟨rfl,hw2⟩
 go_wp2
 go_ret
 exact⟨rfl,DiskTo.trans HW.out.only hw2⟩
theorem Cut_ok {w:World}{b:Nat}{d:Dsk}{S:Nat→Prop}(h:DiskIn w b d S) (n:Str) (k:Int) :
  Calls Tryz.prog 56 #[.pointer (some ⟨b,0,none⟩),.string ⟨n.toArray⟩,.int .i64 k] w (Turns S w b (d.cut n k)):=by
 have hwB:Nw w (((w.alloc (.cells #[.pointer (some ⟨b,0,none⟩)] 25)).alloc (.cells #[.string ⟨n.toArray⟩] 9)).alloc (.cells #[.int .i64 k] 3)):=(((Nw.refl w).alloc _).alloc _).alloc _
 have hB:=h.nw hwB
 have f1:¬ S w.heap.size:=h.out (Nat.le_refl _)
 have f2:¬ S (w.heap.size+1):=h.out (by omega)
 have f3:¬ S (w.heap.size+1+1):=h.out (by omega)
 have c1:(((w.alloc (.cells #[.pointer (some ⟨b,0,none⟩)] 25)).alloc (.cells #[.string ⟨n.toArray⟩] 9)).alloc (.cells #[.int .i64 k] 3)).cell? ⟨w.heap.size,0,none⟩=some (.pointer (some ⟨b,0,none⟩)):=by simp[go_sem]
 have c2:(((w.alloc (.cells #[.pointer (some ⟨b,0,none⟩)] 25)).alloc (.cells #[.string ⟨n.toArray⟩] 9)).alloc (.cells #[.int .i64 k] 3)).cell? ⟨w.heap.size+1,0,none⟩=some (.string ⟨n.toArray⟩):=by simp[go_sem]
 have c3:(((w.alloc (.cells #[.pointer (some ⟨b,0,none⟩)] 25)).alloc (.cells #[.string ⟨n.toArray⟩] 9)).alloc (.cells #[.int .i64 k] 3)).cell? ⟨w.heap.size+1+1,0,none⟩=some (.int .i64 k):=by simp[go_sem]
 have H:=operation_ok hB 104 105 #[.pointer (some ⟨w.heap.size,0,none⟩),.pointer (some ⟨w.heap.size+1,0,none⟩),.pointer (some ⟨w.heap.size+1+1,0,none⟩)]
  #[.pointer (some ⟨w.heap.size,0,none⟩),.pointer (some ⟨w.heap.size+1,0,none⟩),.pointer (some ⟨w.heap.size+1+1,0,none⟩)] (d.mayCut n k) (fun L=>setF L n ⟨(fileOf L n).bytes.take k.toNat,k.toNat⟩)
  (enters_of Tryz.func104 (by kernel_rfl) (by kernel_rfl)) (enters_of Tryz.func105 (by kernel_rfl) (by kernel_rfl))
  (fun _=>Cut1_ok hB n k _ _ _ c2 c1 c3) (fun hm _ w1 ho hd=>Cut2_ok hd n k _ _ _ (ho.cell c2 f2) (ho.cell c1 f1) (ho.cell c3 f3) hm)
 have HH:=zH H
 have HW:=zH hwB
 clear H hwB hB h c1 c2 c3 f1 f2 f3
 go_enter Tryz.func56,Tryz.ntmps56
 go_wp2_with (go_at_call 84;refine HH.out.mono ?_)
 rintro e w2 ⟨rfl,hw2⟩
 go_wp2
 go_ret
 exact⟨rfl,DiskTo.trans HW.out.only hw2⟩
def TurnsU (S:Nat→Prop) (w:World) (b:Nat) (d:Dsk) (e:Ending) (w':World):Prop:=e=.returned (.tuple #[])∧DiskTo S w w' b d
theorem Dsk.Ok.armed {d:Dsk}(ok:d.Ok) (k:Int) (hk:k≤9223372036854775807):(d.armed k).Ok:=by
 unfold Dsk.armed
 split
 ·exact ok
 ·exact⟨ok.most0,ok.most1,by show -1≤max k 0;omega,by show max k 0≤_;omega,ok.names,ok.named,ok.few,ok.used,ok.synced⟩
theorem Arm_ok {w:World}{b:Nat}{d:Dsk}{S:Nat→Prop}(h:DiskIn w b d S) (k:Int) (hk:k≤9223372036854775807) :
  Calls Tryz.prog 13 #[.pointer (some ⟨b,0,none⟩),.int .i64 k] w (TurnsU S w b (d.armed k)):=by
 obtain⟨m,c0,c1,c2,c3,cf⟩:∃m,w.cell? ⟨b,0,none⟩=some (.map (some m))∧w.cell? ⟨b,1,none⟩=some (.int .i64 d.most)∧w.cell? ⟨b,2,none⟩=some (.int .i64 d.arm)∧w.cell? ⟨b,3,none⟩=some (.bool d.down)∧∀i,w.frozen? ⟨b,i,none⟩=false:=by
  obtain⟨m,fs,hD,-⟩:=h
  exact⟨m,hdr_cells hD.hdr⟩
 have hok:=h.ok.armed k hk
 cases hdn:d.down
 case true =>
  have r:Hid (d.armed k=d):=by show d.armed k=d;simp[Dsk.armed,hdn]
  rw[hdn]at c3
  have H:=zH h
  clear h hok hdn c1 c2
  go_enter Tryz.func13,Tryz.ntmps13
  go_wp2_with (go_at_call 55;refine (none_ok _ b m c0).mono ?_;rintro e w' ⟨rfl,rfl⟩)
  refine bodyPost_end (results_none rfl _ _ _) rfl ⟨rfl,?_⟩
  rw[r.out];exact DiskTo.refl H.out (Nw.refl _)
 case false =>
  have r:Hid (d.armed k={ d with arm:=max k 0 }):=by show d.armed k=_;simp[Dsk.armed,hdn]
  rw[hdn]at c3
  have H:=zH h
  have HO:=zH hok
  have hb:=h.own_b
  clear h hok hdn c1
  have hcase:0≤k∨k<0:=by omega
  rcases hcase with hs|hs
  all_goals
   go_enter Tryz.func13,Tryz.ntmps13
   go_wp2_with (go_at_call 55;refine (none_ok _ b m c0).mono ?_;rintro e w' ⟨rfl,rfl⟩)
   refine bodyPost_end (results_none rfl _ _ _) rfl ⟨rfl,?_⟩
   have hok:=HO.out
   rw[r.out]at hok ⊢
   refine⟨S,H.out.head (d':={ d with arm:=max k 0 }) (fun m0 hm0=>?_) (fun j hj _=>Below.heap_setCell _ _ _ _ hj) rfl hok,(Only.refl w).setCell (fun _=>hb) _,fun j hj=>.inl hj⟩
   rw[heap_setCell_at hm0 2 _]
   have:max k 0=(if 0≤k then k else 0):=by split <;> omega
   simp[this]
   try omega
def newDsk (most:Int):Dsk:=⟨most,[],-1,false⟩
def NewPost (w:World) (most:Int) (e:Ending) (w':World):Prop:=∃b S,e=.returned (.tuple #[.pointer (some ⟨b,0,none⟩),.int .i64 0])∧DiskIn w' b (newDsk most) S∧Nw w w'∧∀k,S k→w.heap.size≤k
theorem New_ok (most:Int) (w:World) (h0:0≤most) (h1:most≤16777216):Calls Tryz.prog 22 #[.int .i64 most] w (NewPost w most):=by
 have hmm:=@run_makeMap Tryz.prog
 go_enter Tryz.func22,Tryz.ntmps22
 go_wp2
 go_ret2
 refine⟨w.heap.size+1,fun k=>k∈dskBlocks (w.heap.size+1) w.heap.size [],rfl,⟨w.heap.size,[],⟨?_,⟨0,?_,by simp⟩,rfl,by simp,by simp[dskBlocks],by simp,⟨h0,h1,by simp[newDsk],by simp[newDsk],by simp[newDsk,namesF],by simp[newDsk,namesF],by simp[newDsk],by simpa [newDsk,usedF] using h0,by simp[newDsk]⟩⟩,fun k=>Iff.rfl⟩,?_,?_⟩
 ·have:=heap_alloc_new (w.alloc (.map #[] 0)) (.cells #[.map (some w.heap.size),.int .i64 most,.int .i64 (-1),.bool false] 108)
  rw[World.size_alloc]at this
  exact this
 ·rw[heap_alloc_old _ _ (by simp)];exact heap_alloc_new w _
 ·exact ((Nw.refl w).alloc _).alloc _
 ·intro k hk;simp[dskBlocks]at hk;omega
set_option maxHeartbeats 1600000
theorem namesF_setF {L:List (Str×DFile)}{n:Str}{f:DFile}(h:n∈namesF L):namesF (setF L n f)=namesF L:=by
 rcases split_name n L with hn|⟨A,g,B,rfl,hA⟩
 ·exact absurd h hn
 ·rw[setF_hit hA];simp[namesF]
theorem crashF_snoc (n:Str):∀(A:List Str) (ks:List Int) (L:List (Str×DFile)),crashF (A++[n]) ks L=setF (crashF A ks L) n (leaves (fileOf (crashF A ks L) n) (ks.getD A.length 0))
 |[],ks,L=>by cases ks <;> simp[crashF]
 |a::A,ks,L=>by
  simp only[List.cons_append,crashF]
  rw[crashF_snoc n A ks.tail]
  cases ks <;> simp
theorem namesF_crashF:∀(A:List Str) (ks:List Int) (L:List (Str×DFile)),(∀n∈A,n∈namesF L)→namesF (crashF A ks L)=namesF L
 |[],_,_,_=>rfl
 |a::A,ks,L,h=>by
  simp only[crashF]
  have h1:namesF (setF L a (leaves (fileOf L a) (ks.headD 0)))=namesF L:=namesF_setF (h a (by simp))
  rw[namesF_crashF A ks.tail _ (fun n hn=>by rw[h1];exact h n (by simp[hn])),h1]
theorem DiskTo.step {S:Nat→Prop}{w w1 w2:World}{b:Nat}{d':Dsk}{S1:Nat→Prop}(ho:Only S w w1) (hn:∀k,S1 k→S k∨w.heap.size≤k) (h:DiskTo S1 w1 w2 b d'):DiskTo S w w2 b d':=by
 obtain⟨S2,h1,h2,h3⟩:=h
 refine⟨S2,h1,ho.trans' h2 (fun k hk hs=>?_),fun k hk=>?_⟩
 ·rcases hn k hs with h|h
  ·exact h
  ·omega
 ·rcases h3 k hk with h|h
  ·exact hn k h
  ·exact .inr (Nat.le_trans ho.size h)
theorem Crash_ok {w:World}{b:Nat}{d:Dsk}{S:Nat→Prop}(h:DiskIn w b d S) (v:Value) (ks:List Int) (hs:Rd i64v w v ks) (hsep:ks≠[]→∀g,v.ownBlock=some g→¬ S g) :
  Calls Tryz.prog 34 #[.pointer (some ⟨b,0,none⟩),v] w (TurnsU S w b (d.crash ks)):=by
 have hL:=zH (List_ok h)
 obtain⟨m,c0⟩:∃m,w.cell? ⟨b,0,none⟩=some (.map (some m)):=by
  obtain⟨m,fs,hD,-⟩:=h
  exact⟨m,(hdr_cells hD.hdr).1⟩
 have hlen:d.list.length≤200:=by
  have:=h.ok.few
  have hp:d.list.Perm (namesF d.files):=List.mergeSort_perm _ _
  rw[hp.length_eq];simpa [namesF] using this
 have hin:∀n∈d.list,n∈namesF d.files:=fun n hn=>(List.mergeSort_perm _ _).mem_iff.1 hn
 obtain⟨ka,kc,rfl,hkl,hkm,hkel⟩:=hs.elems
 have H:=zH h
 have HS:=zH hs
 have HIN:=zH hin
 have HSEP:=zH hsep
 have HKE:=zH hkel
 clear h hs hin hsep hkel
 unfold maxLen at hkm
 go_enter Tryz.func34,Tryz.ntmps34
 go_wp2_with (first|(go_at_call 55;refine (none_ok _ b m c0).mono ?_;rintro e w' ⟨rfl,rfl⟩)|(go_at_call 43;refine hL.out.mono ?_))
 rintro e w1 ⟨v1,rfl,hss,hw1,hfresh⟩
 obtain⟨sa,cap,rfl,h1,h2,hel⟩:=hss.elems
 have HE:=zH hel
 have HW1:=zH hw1
 have HF:=zH hfresh
 clear hss hel hw1 hfresh c0
 go_wp2
 go_loopw [13] (fun i wr=>∃k:Nat,k≤d.list.length∧i=.int .i64 k∧DiskTo S w1 wr b { d with files:=crashF (d.list.take k) ks d.files }) (fun i _=>d.list.length-(intOf i).toNat)
 case atStart=>exact⟨0,Nat.zero_le _,rfl,DiskTo.refl (H.out.nw HW1.out) (Nw.refl _)⟩
 case round =>
  obtain⟨k,hk,rfl,hto⟩:=hrel
  by_cases hlt:k<d.list.length
  ·obtain⟨g,o,rfl,hg,hc⟩:=HE.out k hlt
   have hfr:¬ S g:=H.out.out (HF.out g rfl)
   obtain⟨S',hD',ho',hn'⟩:=hto
   have hc1:=ho'.cell hc hfr
   have hth:({ d with files:=crashF (d.list.take k) ks d.files }:Dsk).there d.list[k]=0:=by
    have e:namesF (crashF (d.list.take k) ks d.files)=namesF d.files:=namesF_crashF _ _ _ (fun n hn=>HIN.out n (List.take_subset _ _ hn))
    simp only[Dsk.there,e]
    rw[if_pos (HIN.out _ (List.getElem_mem hlt))]
   have hsnoc:crashF (d.list.take (k+1)) ks d.files=setF (crashF (d.list.take k) ks d.files) d.list[k] (leaves (fileOf (crashF (d.list.take k) ks d.files) d.list[k]) (ks.getD k 0)):=by
    rw[List.take_succ_eq_append_getElem hlt,crashF_snoc,List.length_take,Nat.min_eq_left hk]
   generalize hn0:d.list[k]=n at *
   generalize hF0:crashF (d.list.take k) ks d.files=F at *
   obtain⟨m',fs',hDA,hSA⟩:=hD'
   obtain⟨c0,-,-,-,-⟩:=hdr_cells hDA.hdr
   obtain⟨clock,hmap,-⟩:=hDA.map
   obtain⟨A,f,B,rfl,hfn,hnA,hp,hfo,hmem⟩:=there_split hDA hth
   have hfo':fileOf F n=f.file:=hfo
   have hlk:=look_file hmap n
   rw[hp]at hlk
   have hf:=hDA.mem
   obtain⟨fa,fc,hsl⟩:=slice_form hf.own
   have hsy:f.file.synced≤f.file.bytes.length:=hDA.ok.synced (n,f.file) (by rw[hmem];simp)
   have hby:f.file.bytes.length≤16777216:=by
    have h1:=hDA.ok.used
    have h2:=hDA.ok.most1
    rw[hmem,usedF_mid]at h1;omega
   have f0:wr.cell? ⟨f.fb,0,none⟩=some (.slice fa f.file.bytes.length fc):=by rw[←hsl];simp[World.cell?,hf.blk]
   have f1:wr.cell? ⟨f.fb,1,none⟩=some (.int .i64 f.file.synced):=by simp[World.cell?,hf.blk]
   have HLT:Hid (∀(j:Nat),j≤f.file.bytes.length→∀w2,Nw wr w2→Calls Tryz.prog 82 #[.pointer (some ⟨f.fb,0,none⟩),.int .i64 j] w2 fun e w'=>e=.returned (.tuple #[])∧DiskTo S' wr w' b { d with files:=setF F n ⟨f.file.bytes.take j,j⟩ }):=
    fun j hj w2 hw2=>left_turn hDA hSA hw2 hfn hnA j hj
   have HSN:=zH hsnoc
   have HFO:=zH hfo'
   have HO':=zH ho'
   have HN':=zH hn'
   have HKC:Hid (∀hk2:k<ks.length,∃g2 o2,ka=some ⟨g2,o2,none⟩∧wr.cell? ⟨g2,o2+k,none⟩=some (.int .i64 ks[k])):=fun hk2=>by
    obtain⟨g2,o2,hka,-,hcc⟩:=HKE.out k hk2
    exact⟨g2,o2,hka,ho'.cell (HW1.out.cell hcc) (HSEP.out (fun e=>by rw[e]at hk2;exact absurd hk2 (by simp)) g2 (by rw[hka];rfl))⟩
   generalize hY:f.file.synced=y at *
   generalize hL0:f.file.bytes.length=Ln at *
   have HY:=zH hY
   have HLn:=zH hL0
   clear hc hfr hth hsnoc hn0 hF0 hDA hSA hmap hfn hnA hp hfo hfo' hmem hf hsl ho' hn' hY hL0
   have fin:∀(j:Nat) (w2:World),j=y+min (ks.getD k 0).toNat (Ln-y)→DiskTo S' wr w2 b { d with files:=setF F n ⟨f.file.bytes.take j,j⟩ }→DiskTo S w1 w2 b { d with files:=crashF (d.list.take (k+1)) ks d.files }:=by
    intro j w2 hj hto2
    have e:setF F n ⟨f.file.bytes.take j,j⟩=crashF (d.list.take (k+1)) ks d.files:=by
     rw[HSN.out,HFO.out];simp only[leaves,HY.out,HLn.out,hj]
    rw[e]at hto2
    exact DiskTo.step HO'.out HN'.out hto2
   have FIN:=zH fin
   clear fin
   by_cases hkk:k<ks.length
   ·obtain⟨g2,o2,rfl,hkc⟩:=HKC.out hkk
    have hget:ks.getD k 0=ks[k]:=by simp[hkk]
    generalize hq:ks[k]=q at *
    have HQ:=zH hget
    clear hget hq
    go_wp2
    have d4:=cellG f0
    have d5:=cellG f1
    clear f0 f1 hlk c0 hc1
    have hw1':IntKind.i64.wrap ((Ln:Int)-(y:Int))=(Ln:Int)-(y:Int):=IntWalk.i64_in _ (by omega)
    refine wp_region_tail_below 18 (by kernel_rfl) (by kernel_rfl) ?_
    simp only[List.take_succ_cons,List.take_zero,List.drop_succ_cons,List.drop_zero]
    repeat (first|go_big_quiet_step (fail)|quiet_step (fail))
    refine wpQuiet_nil ?_
    intro w2 hw2
    have hw2:=Nw.of_regrown hw2
    have HL1:=HLT.out (y+min q.toNat (Ln-y)) (by omega) w2 hw2
    have e1:((y+min q.toNat (Ln-y):Nat):Int)=(y:Int)+min (max q 0) ((Ln:Int)-(y:Int)):=by omega
    rw[e1]at HL1
    clear e1 hw1' hkc
    have HL2:=zH HL1
    clear d4 d5 hw2 HL1
    go_wp2_with (go_at_call 82;refine HL2.out.mono ?_;rintro e w3 ⟨rfl,hto2⟩)
    have hto3:=zH (FIN.out (y+min q.toNat (Ln-y)) w3 (by rw[HQ.out]) hto2)
    clear hto2
    go_roundw
    case rel=>exact⟨k+1,by omega,by go_num,hto3.out⟩
    case measure=>simp[intOf];omega
   ·have HQ:Hid (ks.getD k 0=0):=by show ks.getD k 0=0;simp[List.getD,List.getElem?_eq_none (Nat.le_of_not_lt hkk)]
    go_wp2
    have d4:=cellG f0
    have d5:=cellG f1
    clear f0 f1 hlk c0 hc1
    have hw1':IntKind.i64.wrap ((Ln:Int)-(y:Int))=(Ln:Int)-(y:Int):=IntWalk.i64_in _ (by omega)
    refine wp_region_tail_below 18 (by kernel_rfl) (by kernel_rfl) ?_
    simp only[List.take_succ_cons,List.take_zero,List.drop_succ_cons,List.drop_zero]
    repeat (first|go_big_quiet_step (fail)|quiet_step (fail))
    refine wpQuiet_nil ?_
    intro w2 hw2
    have hw2:=Nw.of_regrown hw2
    have HL1:=HLT.out (y+min (0:Int).toNat (Ln-y)) (by omega) w2 hw2
    have e1:((y+min (0:Int).toNat (Ln-y):Nat):Int)=(y:Int)+min 0 ((Ln:Int)-(y:Int)):=by omega
    rw[e1]at HL1
    clear e1 hw1'
    have HL2:=zH HL1
    clear d4 d5 hw2 HL1
    go_wp2_with (go_at_call 82;refine HL2.out.mono ?_;rintro e w3 ⟨rfl,hto2⟩)
    have hto3:=zH (FIN.out (y+min (0:Int).toNat (Ln-y)) w3 (by rw[HQ.out]) hto2)
    clear hto2
    go_roundw
    case rel=>exact⟨k+1,by omega,by go_num,hto3.out⟩
    case measure=>simp[intOf];omega
  ·have hkl:k=d.list.length:=by omega
   have e4:crashF (d.list.take k) ks d.files=crashF d.list ks d.files:=by rw[hkl,List.take_length]
   rw[e4]at hto
   obtain⟨S',hD',ho',hn'⟩:=hto
   obtain⟨m',c0,c1,c2,c3,cf⟩:∃m',wr.cell? ⟨b,0,none⟩=some (.map (some m'))∧wr.cell? ⟨b,1,none⟩=some (.int .i64 d.most)∧wr.cell? ⟨b,2,none⟩=some (.int .i64 d.arm)∧wr.cell? ⟨b,3,none⟩=some (.bool d.down)∧∀i,wr.frozen? ⟨b,i,none⟩=false:=by
    obtain⟨m,fs,hD,-⟩:=hD'
    exact⟨m,hdr_cells hD.hdr⟩
   have HD':=zH hD'
   have HO':=zH ho'
   have HN':=zH hn'
   clear hD' ho' hn' hkl e4 c1 c0
   go_wp2
   refine bodyPost_end (results_none rfl _ _ _) rfl ⟨rfl,?_⟩
   have hok:=HD'.out.ok
   have hok':(d.crash ks).Ok:=⟨hok.most0,hok.most1,by simp[Dsk.crash],by simp[Dsk.crash],hok.names,hok.named,hok.few,hok.used,hok.synced⟩
   refine DiskTo.trans HW1.out.only ?_
   have hbS:S b:=H.out.own_b
   refine⟨S',HD'.out.head (d':=d.crash ks) (fun m0 hm0=>?_) (fun j hj _=>?_) rfl hok',(HO'.out.setCell (fun _=>hbS) _).setCell (fun _=>hbS) _,HN'.out⟩
   ·rw[heap_setCell_at (heap_setCell_at hm0 3 _) 2 _];rfl
   ·rw[Below.heap_setCell _ _ _ _ hj,Below.heap_setCell _ _ _ _ hj]
set_option maxHeartbeats 800000
def insS (x:Str):List Str→List Str
 |[]=>[x]
 |a::l=>if x≤a then x::a::l else a::insS x l
def sortS:List Str→List Str
 |[]=>[]
 |a::l=>insS a (sortS l)
theorem insS_perm (x:Str):∀l,(insS x l).Perm (x::l)
 |[]=>List.Perm.refl _
 |a::l=>by
  unfold insS
  split
  ·exact List.Perm.refl _
  ·exact (List.Perm.cons a (insS_perm x l)).trans (List.Perm.swap x a l)
theorem sortS_perm:∀l,(sortS l).Perm l
 |[]=>List.Perm.refl _
 |a::l=>(insS_perm a _).trans (List.Perm.cons a (sortS_perm l))
theorem insS_sorted (x:Str):∀l:List Str,l.Pairwise (·≤·)→(insS x l).Pairwise (·≤·)
 |[],_=>by simp[insS]
 |a::l,h=>by
  unfold insS
  split
  ·rename_i hxa
   refine List.Pairwise.cons (fun y hy=>?_) h
   rcases List.mem_cons.1 hy with rfl|hy
   ·exact hxa
   ·exact List.le_trans hxa ((List.pairwise_cons.1 h).1 y hy)
  ·rename_i hxa
   have hax:a≤x:=(List.le_total a x).resolve_right hxa
   refine List.Pairwise.cons (fun y hy=>?_) (insS_sorted x l (List.pairwise_cons.1 h).2)
   rcases List.mem_cons.1 ((insS_perm x l).mem_iff.1 hy) with rfl|hy
   ·exact hax
   ·exact (List.pairwise_cons.1 h).1 y hy
theorem sortS_sorted:∀l:List Str,(sortS l).Pairwise (·≤·)
 |[]=>List.Pairwise.nil
 |a::l=>insS_sorted a _ (sortS_sorted l)
theorem sortS_eq (l:List Str):(l.mergeSort fun x y=>decide (x≤y))=sortS l:=by
 rw[←Go.mergeSort_of_perm (sortS_perm l)]
 exact List.mergeSort_of_pairwise ((sortS_sorted l).imp (by intro a b h;simpa using h))
theorem list_eq (d:Dsk):d.list=sortS (namesF d.files):=sortS_eq _
theorem conv_str {w:World}{v:Value}{l:List UInt8}(h:Bs w v l):(convert 79 9 v).run Tryz.prog w=.ok (.string ⟨l.toArray⟩) w:=by
 rcases h with ⟨a,rfl,rfl⟩|⟨g,o,cap,rfl,h1,h2,hg,h3⟩
 ·cases a with
  |some a=>exact run_convert_bytes_back (P:=Tryz.prog) w 79 9 5 a 0 [] Tryz.underlying79 Tryz.underlying5 Tryz.underlying9 (fun j hj=>absurd hj (by simp))
  |none=>exact run_convert_bytes_nil (P:=Tryz.prog) w 79 5 Tryz.underlying79 Tryz.underlying5 0 0 9 Tryz.underlying9
 ·exact run_convert_bytes_back (P:=Tryz.prog) w 79 9 5 ⟨g,o,none⟩ cap l Tryz.underlying79 Tryz.underlying5 Tryz.underlying9 (fun j hj=>by
   have:=h3 j hj
   cases j with
   |zero=>exact this
   |succ j=>exact this)
theorem SameBytes_ok {w:World}{v u:Value}{l k:List UInt8}(h:Bs w v l) (h':Bs w u k) :
  Calls Tryz.prog 54 #[v,u] w fun e w'=>e=.returned (.bool (l==k))∧w=w':=by
 have c1:=conv_str h
 have c2:=conv_str h'
 clear h h'
 go_enter Tryz.func54,Tryz.ntmps54
 go_wp2
 go_ret
 exact⟨rfl,rfl⟩
theorem getF_setF (L:List (Str×DFile)) (n m:Str) (f:DFile):getF (setF L n f) m=if n=m then some f else getF L m:=by
 induction L with
 |nil=>simp[setF,getF]
 |cons x L ih =>
  obtain⟨k,g⟩:=x
  by_cases hk:k=n
  ·subst hk
   by_cases hm:k=m
   ·simp[setF,getF,hm]
   ·simp[setF,getF,hm]
  ·by_cases hm:k=m
   ·subst hm
    simp[setF,getF,hk,Ne.symm hk]
   ·simp[setF,getF,hk,hm,ih]
theorem fileOf_setF (L:List (Str×DFile)) (n m:Str) (f:DFile):fileOf (setF L n f) m=if n=m then f else fileOf L m:=by
 unfold fileOf
 rw[getF_setF]
 split <;> rfl
theorem getF_none (L:List (Str×DFile)) (n:Str):getF L n=none↔n∉namesF L:=by
 induction L with
 |nil=>simp[getF,namesF]
 |cons x L ih =>
  obtain⟨k,g⟩:=x
  by_cases hk:k=n
  ·simp[getF,namesF,hk]
  ·simp only[getF,hk,if_false,ih,namesF,List.map_cons,List.mem_cons,not_or]
   exact⟨fun h=>⟨fun e=>hk e.symm,h⟩,fun h=>h.2⟩
theorem getF_some_mem {L:List (Str×DFile)}{n:Str}{f:DFile}(h:getF L n=some f):(n,f)∈L:=by
 induction L with
 |nil=>simp[getF]at h
 |cons x L ih =>
  obtain⟨k,g⟩:=x
  by_cases hk:k=n
  ·simp[getF,hk]at h;subst h;simp[hk]
  ·simp[getF,hk]at h;exact List.mem_cons_of_mem _ (ih h)
theorem Dsk.Ok.le {d:Dsk}(ok:d.Ok) (n:Str):(fileOf d.files n).synced≤(fileOf d.files n).bytes.length:=by
 unfold fileOf
 cases hg:getF d.files n with
 |none=>simp
 |some f=>exact ok.synced (n,f) (getF_some_mem hg)
theorem mem_list {d:Dsk}{n:Str}:n∈d.list↔n∈namesF d.files:=(List.mergeSort_perm _ _).mem_iff
theorem leaves_self {f:DFile}(k:Int) (h:f.synced=f.bytes.length):leaves f k=f:=by
 obtain⟨b,s⟩:=f
 simp only at h
 subst h
 simp[leaves]
theorem crash_names {d:Dsk}(ks:List Int):namesF (d.crash ks).files=namesF d.files:=namesF_crashF _ _ _ (fun _n hn=>mem_list.1 hn)
end Go.Proofs.YtkbenkldfehhlaaGreatDoor
