/-
  Texts merged by a program of this claim's: DocV, DocW, MendM, DocMend, TwinL.
-/
import Derived.Test.YtkbenkldfehhlaaGreatDoorM34
import Derived.Test.YtkbenkldfehhlaaGreatDoorM22
import Derived.Test.YtkbenkldfehhlaaGreatDoorLogJS
import Derived.Test.YtkbenkldfehhlaaGreatDoorM23
import Derived.Test.YtkbenkldfehhlaaGreatDoorM29
import Derived.BigQuiet
import Derived.Test.YtkbenkldfehhlaaGreatDoorM24
import Derived.Test.YtkbenkldfehhlaaGreatDoorM20
import Derived.Test.YtkbenkldfehhlaaGreatDoorM27
namespace Go.Proofs.YtkbenkldfehhlaaGreatDoor
open Go Go.RowKit Go.Sort
set_option maxRecDepth 100000
set_option maxHeartbeats 1600000
def noLg:Lg:=⟨0,[],0,0,0,false⟩
section
variable {X Y:Nat→Prop}{d d':Dsk}{v:Value}{w wk w':World}{m la m' la':Int}{a a' pa pa':Option Addr}{n c n' c' pc pc' pd rd rl K:Nat}{dn dn':Bool}{L L':Lg}
structure St3 (X:Nat→Prop) (w wk:World) (pd rd rl K:Nat) (d:Dsk) (m:Int) (a:Option Addr) (n c:Nat) (la:Int) (dn:Bool):Prop where
 nw:Nw w wk
 lo:w.heap.size≤pd∧w.heap.size≤rd∧w.heap.size≤rl
 hi:pd<K∧rd<K∧rl<K
 kk:K≤wk.heap.size
 ne:pd≠rd∧pd≠rl∧rd≠rl
 bd:wk.heap[pd]? = some (DB (.int .i64 m) (.slice a n c) (.int .i64 la) (.bool dn))
 brd:∃u0 u1 u2 u3,wk.heap[rd]? = some (DB u0 u1 u2 u3)
 brl:∃u0 u1 u2 u3 u4 u5,wk.heap[rl]? = some (LB u0 u1 u2 u3 u4 u5)
 rdk:RD (fun k=>X k∧k<w.heap.size∨K≤k) wk (.agg #[.int .i64 m,.slice a n c,.int .i64 la,.bool dn]) d
theorem St3.on (h:St3 X w wk pd rd rl K d m a n c la dn) (hn:Nw wk w'):St3 X w w' pd rd rl K d m a n c la dn:=by
 obtain⟨u0,u1,u2,u3,hr⟩:=h.brd
 obtain⟨v0,v1,v2,v3,v4,v5,hq⟩:=h.brl
 exact⟨h.nw.trans hn,h.lo,h.hi,Nat.le_trans h.kk hn.size,h.ne,hn.at_ h.bd,⟨_,_,_,_,hn.at_ hr⟩,⟨_,_,_,_,_,_,hn.at_ hq⟩,h.rdk.nw hn⟩
theorem St3.fresh (h:St3 X w wk pd rd rl K d m a n c la dn):∀k,wk.heap.size≤k→(X k∧k<w.heap.size∨K≤k):=fun _k hk=>.inr (Nat.le_trans h.kk hk)
theorem St3.put {S:Nat→Prop}(h:St3 X w wk pd rd rl K d m a n c la dn) (hO:Only S wk w') (hS:∀k,S k→k=pd∨k=rd∨k=rl) :
  Nw w w'∧K≤w'.heap.size∧RD (fun k=>X k∧k<w.heap.size∨K≤k) w' (.agg #[.int .i64 m,.slice a n c,.int .i64 la,.bool dn]) d:=by
 have hlo:=h.lo
 have hhi:=h.hi
 have hno:∀k,(X k∧k<w.heap.size∨K≤k)→¬ S k:=fun k hk hs=>by rcases hS k hs with e|e|e <;> subst e <;> omega
 exact⟨h.nw.trans' hO (fun k hk hs=>by rcases hS k hs with e|e|e <;> subst e <;> omega),Nat.le_trans h.kk hO.size,h.rdk.put hO (fun k hk _=>hno k hk)⟩
theorem St3.step (h:St3 X w wk pd rd rl K d m a n c la dn) (hd:RD (fun k=>X k∧k<w.heap.size∨K≤k) w' (.agg #[.int .i64 m',.slice a' n' c',.int .i64 la',.bool dn']) d') (hn:Nw wk w') :
  ∃w2,((((w'.setCell ⟨pd,0,none⟩ (.int .i64 m')).setCell ⟨pd,1,none⟩ (.slice a' n' c')).setCell ⟨pd,2,none⟩ (.int .i64 la')).setCell ⟨pd,3,none⟩ (.bool dn'))=w2∧St3 X w w2 pd rd rl K d' m' a' n' c' la' dn'∧Only (fun k=>k=pd) w' w2:=by
 have h2:=h.on hn
 have hO:=only_set4 w' pd (.int .i64 m') (.slice a' n' c') (.int .i64 la') (.bool dn')
 obtain⟨u0,u1,u2,u3,hr⟩:=h2.brd
 obtain⟨v0,v1,v2,v3,v4,v5,hq⟩:=h2.brl
 obtain⟨p1,p2,-⟩:=h2.put hO (fun k hk=>.inl hk)
 have hlo:=h.lo
 have hhi:=h.hi
 obtain⟨e1,e2,e3⟩:=h.ne
 exact⟨_,rfl,⟨p1,h.lo,h.hi,p2,h.ne,heap_set4 h2.bd _ _ _ _,⟨_,_,_,_,hO.at_ hr (Ne.symm e1)⟩,⟨_,_,_,_,_,_,hO.at_ hq (Ne.symm e2)⟩,hd.put hO (fun k hk _ e=>by subst e;omega)⟩,hO⟩
theorem St3.fin (hX:∀k,w.heap.size≤k→X k) (h:St3 X w wk pd rd rl K d m a n c la dn) (hp:Pcs wk (.slice pa L.l.length pc) L.l) (ho:∀g,(Value.slice pa L.l.length pc).ownBlock=some g→(X g∧g<w.heap.size∨K≤g)) :
  ∃w4,((((((((((wk.setCell ⟨rd,0,none⟩ (.int .i64 m)).setCell ⟨rd,1,none⟩ (.slice a n c)).setCell ⟨rd,2,none⟩ (.int .i64 la)).setCell ⟨rd,3,none⟩ (.bool dn)).setCell ⟨rl,0,none⟩ (.int .i64 L.size)).setCell ⟨rl,1,none⟩ (.slice pa L.l.length pc)).setCell ⟨rl,2,none⟩ (.int .i64 L.n)).setCell ⟨rl,3,none⟩ (.int .i64 L.acked)).setCell ⟨rl,4,none⟩ (.int .i64 L.bytes)).setCell ⟨rl,5,none⟩ (.bool L.over))=w4 ∧
   RD X w4 (.agg #[.int .i64 m,.slice a n c,.int .i64 la,.bool dn]) d∧LogV X w4 (.agg #[.int .i64 L.size,.slice pa L.l.length pc,.int .i64 L.n,.int .i64 L.acked,.int .i64 L.bytes,.bool L.over]) L∧Nw w w4 ∧
   w4.heap[rd]? = some (DB (.int .i64 m) (.slice a n c) (.int .i64 la) (.bool dn))∧w4.heap[rl]? = some (logB L pa pc):=by
 obtain⟨u0,u1,u2,u3,hr⟩:=h.brd
 obtain⟨v0,v1,v2,v3,v4,v5,hq⟩:=h.brl
 obtain⟨e1,e2,e3⟩:=h.ne
 have hO1:=only_set4 wk rd (.int .i64 m) (.slice a n c) (.int .i64 la) (.bool dn)
 have hB1:=heap_set4 hr (.int .i64 m) (.slice a n c) (.int .i64 la) (.bool dn)
 have hQ1:=hO1.at_ hq (Ne.symm e3)
 generalize ((((wk.setCell ⟨rd,0,none⟩ (.int .i64 m)).setCell ⟨rd,1,none⟩ (.slice a n c)).setCell ⟨rd,2,none⟩ (.int .i64 la)).setCell ⟨rd,3,none⟩ (.bool dn))=w3 at hO1 hB1 hQ1 ⊢
 have hO2:=only_set6 w3 rl (.int .i64 L.size) (.slice pa L.l.length pc) (.int .i64 L.n) (.int .i64 L.acked) (.int .i64 L.bytes) (.bool L.over)
 have hO:Only (fun k=>k=rd∨k=rl) wk _:=(hO1.mono (fun k _ hk=>.inl hk)).trans (hO2.mono (fun k _ hk=>.inr hk))
 obtain⟨p1,p2,p3⟩:=h.put hO (fun k hk=>.inr hk)
 have hlo:=h.lo
 have hhi:=h.hi
 refine⟨_,rfl,p3.mono (fun k hk=>?_),⟨pa,pc,rfl,⟨SrcV.kept (X:=fun k=>¬ (k=rd∨k=rl)) hp.src ⟨hO.size,fun k hk hl=>hO.block k hl hk⟩ (fun _ g hg e=>?_),hp.ok⟩,fun g hg=>?_⟩,p1,hO2.at_ hB1 e3,heap_set6 hQ1 _ _ _ _ _ _⟩
 ·rcases hk with hk|hk
  ·exact hk.1
  ·exact hX k (by omega)
 ·rcases e with e|e <;> subst e <;> rcases ho _ hg with hk|hk <;> omega
 ·rcases ho g hg with hk|hk
  ·exact hk.1
  ·exact hX g (by omega)
theorem pcs_none {w:World}:Pcs w (.slice none 0 0) []:=⟨(Vec.nil (k:=4) (w:=w)).src,fun q hq=>by cases hq⟩
theorem St3.fin0 (hX:∀k,w.heap.size≤k→X k) (h:St3 X w wk pd rd rl K d m a n c la dn) :
  ∃w4,((((((((((wk.setCell ⟨rd,0,none⟩ (.int .i64 m)).setCell ⟨rd,1,none⟩ (.slice a n c)).setCell ⟨rd,2,none⟩ (.int .i64 la)).setCell ⟨rd,3,none⟩ (.bool dn)).setCell ⟨rl,0,none⟩ (.int .i64 0)).setCell ⟨rl,1,none⟩ (.slice none 0 0)).setCell ⟨rl,2,none⟩ (.int .i64 0)).setCell ⟨rl,3,none⟩ (.int .i64 0)).setCell ⟨rl,4,none⟩ (.int .i64 0)).setCell ⟨rl,5,none⟩ (.bool false))=w4 ∧
   RD X w4 (.agg #[.int .i64 m,.slice a n c,.int .i64 la,.bool dn]) d∧LogV X w4 (.agg #[.int .i64 0,.slice none 0 0,.int .i64 0,.int .i64 0,.int .i64 0,.bool false]) noLg∧Nw w w4 ∧
   w4.heap[rd]? = some (DB (.int .i64 m) (.slice a n c) (.int .i64 la) (.bool dn))∧w4.heap[rl]? = some (LB (.int .i64 0) (.slice none 0 0) (.int .i64 0) (.int .i64 0) (.int .i64 0) (.bool false)):=
 h.fin (L:=noLg) hX pcs_none (fun g hg=>by cases hg)
theorem St3.told (h:St3 X w wk pd rd rl K d m a n c la dn):(wk.cell? ⟨pd,0,none⟩=some (.int .i64 m)∧wk.cell? ⟨pd,1,none⟩=some (.slice a n c)∧wk.cell? ⟨pd,2,none⟩=some (.int .i64 la)∧wk.cell? ⟨pd,3,none⟩=some (.bool dn)) ∧
  (∃u0 u1 u2 u3,wk.cell? ⟨rd,0,none⟩=some u0∧wk.cell? ⟨rd,1,none⟩=some u1∧wk.cell? ⟨rd,2,none⟩=some u2∧wk.cell? ⟨rd,3,none⟩=some u3∧wk.frozen? ⟨rd,0,none⟩=false∧wk.frozen? ⟨rd,1,none⟩=false∧wk.frozen? ⟨rd,2,none⟩=false∧wk.frozen? ⟨rd,3,none⟩=false) ∧
  (∃u0 u1 u2 u3 u4 u5,(wk.cell? ⟨rl,0,none⟩=some u0∧wk.cell? ⟨rl,1,none⟩=some u1∧wk.cell? ⟨rl,2,none⟩=some u2∧wk.cell? ⟨rl,3,none⟩=some u3∧wk.cell? ⟨rl,4,none⟩=some u4∧wk.cell? ⟨rl,5,none⟩=some u5) ∧
   wk.frozen? ⟨rl,0,none⟩=false∧wk.frozen? ⟨rl,1,none⟩=false∧wk.frozen? ⟨rl,2,none⟩=false∧wk.frozen? ⟨rl,3,none⟩=false∧wk.frozen? ⟨rl,4,none⟩=false∧wk.frozen? ⟨rl,5,none⟩=false)∧pd≠rd∧pd≠rl∧rd≠rl:=by
 obtain⟨b0,b1,b2,b3,-⟩:=box_cells h.bd
 obtain⟨u0,u1,u2,u3,hr⟩:=h.brd
 obtain⟨v0,v1,v2,v3,v4,v5,hq⟩:=h.brl
 exact⟨⟨b0,b1,b2,b3⟩,⟨_,_,_,_,box_cells hr⟩,⟨_,_,_,_,_,_,lb_cells hq⟩,h.ne⟩
theorem three_boxes (w:World) (B C D:Obj) :
  let W:=((w.alloc B).alloc C).alloc D
  Nw w W∧W.heap[w.heap.size]? = some B∧W.heap[w.heap.size+1]? = some C∧W.heap[w.heap.size+1+1]? = some D∧W.heap.size=w.heap.size+3:=by
 obtain⟨h1,h2,h3,h4⟩:=boxes_in w B C
 have n1:=(Nw.refl ((w.alloc B).alloc C)).alloc D
 have b3:=heap_alloc_new ((w.alloc B).alloc C) D
 rw[h4]at b3
 exact⟨h1.trans n1,n1.at_ h2,n1.at_ h3,b3,by rw[World.size_alloc,h4]⟩
theorem St3.new (h:RD X w (.agg #[.int .i64 m,.slice a n c,.int .i64 la,.bool dn]) d) :
  St3 X w (((w.alloc (DB (.int .i64 m) (.slice a n c) (.int .i64 la) (.bool dn))).alloc (DB (.int .i64 0) (.slice none 0 0) (.int .i64 0) (.bool false))).alloc (LB (.int .i64 0) (.slice none 0 0) (.int .i64 0) (.int .i64 0) (.int .i64 0) (.bool false)))
   w.heap.size (w.heap.size+1) (w.heap.size+1+1) (w.heap.size+3) d m a n c la dn:=by
 obtain⟨h1,h2,h3,h4,h6⟩:=three_boxes w (DB (.int .i64 m) (.slice a n c) (.int .i64 la) (.bool dn)) (DB (.int .i64 0) (.slice none 0 0) (.int .i64 0) (.bool false)) (LB (.int .i64 0) (.slice none 0 0) (.int .i64 0) (.int .i64 0) (.int .i64 0) (.bool false))
 exact⟨h1,by omega,by omega,by rw[h6];omega,by omega,h2,⟨_,_,_,_,h3⟩,⟨_,_,_,_,_,_,h4⟩,(h.narrow.nw h1).mono (fun k hk=>.inl hk)⟩
end
section
variable {X:Nat→Prop}{d:Dsk}{w wk w':World}{m la:Int}{a pa:Option Addr}{n c pc pl pd rd rl K:Nat}{dn:Bool}{L:Lg}
theorem pcs_lastAt {w:World}{l:List Pc}(h:Pcs w (.slice pa l.length pc) l) (hne:l≠[]):∃g o,pa=some ⟨g,o,none⟩∧g<w.heap.size∧(0<l.length∧l.length≤pc∧pc≤9223372036854775807) ∧
  w.cell? ⟨g,o+(l.length-1)*4,none⟩=some (.string ⟨(lastP l).name.toArray⟩)∧w.cell? ⟨g,o+(l.length-1)*4+1,none⟩=some (.int .i64 (lastP l).first)∧w.cell? ⟨g,o+(l.length-1)*4+2,none⟩=some (.int .i64 (lastP l).count)∧w.cell? ⟨g,o+(l.length-1)*4+3,none⟩=some (.bool (lastP l).dense) ∧
  (lastP l).name.length≤9223372036854775807∧in64 (lastP l).first:=by
 have hlen:0<l.length:=List.length_pos_iff.2 hne
 have hok:=h.ok
 obtain⟨ga,gc,he0,e1,e2,hel⟩:=h.elem
 injection he0 with ep _ ec
 subst ep
 subst ec
 obtain⟨g,o,hpa,hg,c0,c1,c2,c3⟩:=hel (l.length-1) (by omega)
 have hm:lastP l∈l:=by
  have:lastP l∈l.dropLast++[lastP l]:=by simp
  rwa [←split_last hne]at this
 rw[lastP_at hne]at c0 c1 c2 c3
 unfold maxLen at e2
 exact⟨g,o,hpa,hg,⟨hlen,e1,by omega⟩,c0,c1,c2,c3,(hok _ hm).name,(hok _ hm).first⟩
theorem LogV.at_ {pa:Option Addr}{pc:Nat}(h:LogV X w (.agg #[.int .i64 L.size,.slice pa L.l.length pc,.int .i64 L.n,.int .i64 L.acked,.int .i64 L.bytes,.bool L.over]) L):Pcs w (.slice pa L.l.length pc) L.l∧∀g,(Value.slice pa L.l.length pc).ownBlock=some g→X g:=by
 obtain⟨pa',pc',e,h1,h2⟩:=h
 have e2:(Value.slice pa L.l.length pc)=.slice pa' L.l.length pc':=by
  have:=congrArg (fun v=>match v with | .agg #[_,s,_,_,_,_]=>s|_=>.bool true) e
  exact this
 rw[e2]
 exact⟨h1,h2⟩
end
theorem cell_lt {w:World}{g o:Nat}{v:Value}(h:w.cell? ⟨g,o,none⟩=some v):g<w.heap.size:=by
 rcases Nat.lt_or_ge g w.heap.size with h1|h1
 ·exact h1
 ·simp[World.cell?,Array.getElem?_eq_none h1]at h
theorem pcsD_there {U:List UInt8→Int×List Ev×Int}{d:Dsk}:∀(l:List Pc) (out:List Ev) (g:Int),(pcsD U d l out g).2.2=0→∀q∈l,(readFl d q.name).2=0
 |[],_,_,_,q,hq=>by cases hq
 |p::l,out,g,h,q,hq=>by
  rw[pcsD_cons]at h
  by_cases hp:(pieceD U d p (decide (l=[]))).2.2=0
  ·rw[if_neg (by simpa using hp)]at h
   rcases List.mem_cons.1 hq with rfl|hq
   ·unfold pieceD at hp
    rcases Decidable.em ((readFl d q.name).2=0) with h1|h1
    ·exact h1
    ·rw[if_pos h1]at hp;exact absurd hp h1
   ·exact pcsD_there l _ _ h q hq
  ·rw[if_pos hp]at h
   exact absurd h hp
theorem read_there {d:Dsk}{n:Str}(h:(readFl d n).2=0):n∈namesF d.files∧d.down=false:=by
 unfold readFl at h
 have h2:(d.read n).2=0:=by
  simp only at h
  split at h
  ·exact absurd h (by simp)
  ·exact h
 unfold Dsk.read at h2
 by_cases hd:d.down=true
 ·rw[if_pos hd]at h2;exact absurd h2 (by simp)
 ·rw[if_neg hd]at h2
  refine⟨?_,by simpa using hd⟩
  split at h2
  ·exact absurd h2 (by simp)
  ·rename_i f hf
   exact List.mem_map.2 ⟨_,mem_getF hf,rfl⟩
theorem scanD_last {U:List UInt8→Int×List Ev×Int}{d:Dsk}{es:List Ev}{ps:List Pc}{g:Int}(h:scanD U d=⟨es,ps,g,0⟩) (hne:ps≠[]):(lastP ps).name∈namesF d.files∧rightL ps=true:=by
 unfold scanD at h
 split at h
 ·simp only[ScanR.mk.injEq]at h;exact absurd h.2.1.symm hne
 split at h
 ·simp only[ScanR.mk.injEq]at h;exact absurd h.2.1.symm hne
 split at h
 ·simp only[ScanR.mk.injEq]at h;exact absurd h.2.1.symm hne
 rename_i h3
 split at h
 ·simp only[ScanR.mk.injEq]at h;exact absurd h.2.1.symm hne
 rename_i h4
 simp only[ScanR.mk.injEq]at h
 obtain⟨-,rfl,-,-⟩:=h
 have h5:=pcsD_there _ _ _ (by rcases Decidable.em ((pcsD U d (listedB (d.read manifestS).1).1 [] 0).2.2=0) with h|h;exact h;exact absurd h h4) (lastP (listedB (d.read manifestS).1).1) (by rw[←lastP_at hne];exact List.getElem_mem _)
 exact⟨(read_there h5).1,listedB_right (by rcases Decidable.em ((listedB (d.read manifestS).1).2=0) with h|h;exact h;exact absurd h h3)⟩
section
variable {X:Nat→Prop}{d d':Dsk}{v:Value}{w wk w':World}{m la m' la':Int}{a a':Option Addr}{n c n' c':Nat}{dn dn':Bool}{ev pv:Value}{es:List Ev}{ps:List Pc}{NL:List Str}
def FNm (w wk:World) (a:Option Addr) (NL:List Str):Prop:=∀i (hi:i<NL.length),∃g o,a=some ⟨g,o,none⟩∧g<wk.heap.size∧(g<w.heap.size∨w.heap.size+2≤g)∧wk.cell? ⟨g,o+i*3,none⟩=some (.string ⟨(NL[i]).toArray⟩)
theorem FNm.nw (h:FNm w wk a NL) (hw:Nw wk w'):FNm w w' a NL:=fun i hi=>by
 obtain⟨g,o,h1,h2,h3,h4⟩:=h i hi
 exact⟨g,o,h1,Nat.lt_of_lt_of_le h2 hw.size,h3,hw.cell h4⟩
theorem FNm.put (h:FNm w wk a NL) (hw:Only (fun k=>k=w.heap.size) wk w'):FNm w w' a NL:=fun i hi=>by
 obtain⟨g,o,h1,h2,h3,h4⟩:=h i hi
 refine⟨g,o,h1,Nat.lt_of_lt_of_le h2 hw.size,h3,hw.cell h4 (fun e=>?_)⟩
 have e':g=w.heap.size:=e
 omega
theorem RD.names {W:World}(h:RD (fun k=>X k∧k<W.heap.size∨W.heap.size+2≤k) wk (.agg #[.int .i64 m,.slice a n c,.int .i64 la,.bool dn]) d):n=d.list.length∧n≤c∧c≤maxLen∧FNm W wk a d.list:=by
 obtain⟨ok,r,⟨sv,hv,hFL⟩,ho⟩:=h
 have hl:=ho.list ok
 obtain⟨a2,cap,h1,h2,h3,hel⟩:=hFL.elem
 obtain⟨cs,hsrc,-,hown⟩:=hFL
 have hs:sv=.slice a n c:=by
  injection hv with hv
  have:=congrArg (fun x=>x[1]?) hv
  simpa using this.symm
 rw[hs]at h1 hown
 injection h1 with e1 e2 e3
 subst e1 e2 e3
 have hll:d.list.length=r.files.length:=by rw[hl];simp[namesF]
 refine⟨hll.symm,h2,h3,fun i hi=>?_⟩
 obtain⟨g,o,b,q1,q2,-,-,-⟩:=hel i (by omega)
 have hne:r.files≠[]:=fun e=>by rw[e,List.length_nil]at hll;omega
 have hg:g<wk.heap.size:=by
  have:=cell_lt q2
  exact this
 refine⟨g,o,q1,hg,?_,?_⟩
 ·have:=hown hne g (by rw[q1];rfl)
  rcases this with h|h
  ·exact .inl h.2
  ·exact .inr h
 ·rw[q2]
  have:d.list[i]=r.files[i].1:=by
   simp only[hl,namesF,List.getElem_map]
  rw[this]
theorem RD.finds (h:RD X wk (.agg #[.int .i64 m,.slice a n c,.int .i64 la,.bool dn]) d){nm:Str}(hn:nm∈namesF d.files):∃(k g o:Nat) (ba:Option Addr) (bc:Nat),k<n∧n≤c∧c≤maxLen∧a=some ⟨g,o,none⟩∧g<wk.heap.size ∧
  wk.cell? ⟨g,o+k*3+1,none⟩=some (.slice ba (fileOf d.files nm).bytes.length bc) ∧
  ∀w',Nw wk w'→Calls Tryz.prog 58 #[.agg #[.int .i64 m,.slice a n c,.int .i64 la,.bool dn],.string ⟨nm.toArray⟩] w' fun e w''=>e=.returned (.int .i64 k)∧Nw w' w'':=by
 obtain⟨ok,r,hR,ho⟩:=h
 have hR2:=hR
 obtain⟨sv,hv,hFL⟩:=hR
 obtain⟨a2,cap,h1,h2,h3,hel⟩:=hFL.elem
 have hs:sv=.slice a n c:=by
  injection hv with hv
  have:=congrArg (fun x=>x[1]?) hv
  simpa using this.symm
 rw[hs]at h1
 injection h1 with e1 e2 e3
 subst e1 e2 e3
 obtain⟨k,hk,f1,f2,f3⟩:=rfind_mem ((ho.mem nm).2 hn)
 obtain⟨g,o,b,q1,q2,q3,-,q5⟩:=hel k hk
 obtain⟨ba,bc,rfl,-⟩:=Rd.len q5.1
 refine⟨k,g,o,ba,bc,hk,h2,h3,q1,cell_lt q2,?_,fun w' hw=>?_⟩
 ·rw[q3,←ho.file nm,f3]
 ·have:=rFind_ok (hR2.nw hw) nm
  rw[f1]at this
  exact this
structure MdS (X:Nat→Prop) (w wk:World) (d:Dsk) (m:Int) (a:Option Addr) (n c:Nat) (la:Int) (dn:Bool) (ev pv:Value) (es:List Ev) (ps:List Pc):Prop where
 s:Stt X w wk d m a n c la dn
 e:Vec 5 wk ev es.length (es.flatMap evV)
 p:Vec 4 wk pv ps.length (ps.flatMap pcV)
 pok:∀q∈ps,q.Ok
 fe:∀g,ev.ownBlock=some g→w.heap.size+2≤g
 fp:∀g,pv.ownBlock=some g→w.heap.size+2≤g
theorem MdS.on (h:MdS X w wk d m a n c la dn ev pv es ps) (hn:Nw wk w'):MdS X w w' d m a n c la dn ev pv es ps:=⟨h.s.on hn,h.e.nw hn,h.p.nw hn,h.pok,h.fe,h.fp⟩
theorem MdS.step (h:MdS X w wk d m a n c la dn ev pv es ps) (hd:RD (fun k=>X k∧k<w.heap.size∨w.heap.size+2≤k) w' (.agg #[.int .i64 m',.slice a' n' c',.int .i64 la',.bool dn']) d') (hn:Nw wk w') :
  ∃w2,((((w'.setCell ⟨w.heap.size,0,none⟩ (.int .i64 m')).setCell ⟨w.heap.size,1,none⟩ (.slice a' n' c')).setCell ⟨w.heap.size,2,none⟩ (.int .i64 la')).setCell ⟨w.heap.size,3,none⟩ (.bool dn'))=w2∧MdS X w w2 d' m' a' n' c' la' dn' ev pv es ps∧Only (fun k=>k=w.heap.size) w' w2:=by
 obtain⟨w2,h1,h2,h3⟩:=h.s.step hd hn
 refine⟨w2,h1,⟨h2,?_,?_,h.pok,h.fe,h.fp⟩,h3⟩
 ·exact (h.e.nw hn).keep h3.size (fun g hg=>h3.block g ((h.e.nw hn).lt g hg) (fun e=>by have:=h.fe g hg;omega))
 ·exact (h.p.nw hn).keep h3.size (fun g hg=>h3.block g ((h.p.nw hn).lt g hg) (fun e=>by have:=h.fp g hg;omega))
theorem MdS.fin (hX:∀k,w.heap.size≤k→X k) (h:MdS X w wk d m a n c la dn ev pv es ps) :
  ∃w4,((((wk.setCell ⟨w.heap.size+1,0,none⟩ (.int .i64 m)).setCell ⟨w.heap.size+1,1,none⟩ (.slice a n c)).setCell ⟨w.heap.size+1,2,none⟩ (.int .i64 la)).setCell ⟨w.heap.size+1,3,none⟩ (.bool dn))=w4∧RD X w4 (.agg #[.int .i64 m,.slice a n c,.int .i64 la,.bool dn]) d∧OwnE w w4 ev es∧OwnP w w4 pv ps∧Nw w w4∧w4.heap[w.heap.size+1]? = some (DB (.int .i64 m) (.slice a n c) (.int .i64 la) (.bool dn)):=by
 obtain⟨w4,h1,h2,h3,h4,h5⟩:=h.s.fin hX
 refine⟨w4,h1,h2,⟨?_,h3,fun g hg=>by have:=h.fe g hg;omega⟩,⟨?_,h.pok,h3,fun g hg=>by have:=h.fp g hg;omega⟩,h3,h5⟩
 ·exact h.e.keep h4.size (fun g hg=>h4.block g (h.e.lt g hg) (fun e=>by have:=h.fe g hg;omega))
 ·exact h.p.keep h4.size (fun g hg=>h4.block g (h.p.lt g hg) (fun e=>by have:=h.fp g hg;omega))
def MendP (X:Nat→Prop) (w:World) (r:MendR) (z:Ending) (w':World):Prop:=∃(m:Int) (a:Option Addr) (n c:Nat) (la:Int) (dn:Bool) (ev pv:Value),z=.returned (.tuple #[.agg #[.int .i64 m,.slice a n c,.int .i64 la,.bool dn],ev,pv,.int .i64 r.e]) ∧
 RD X w' (.agg #[.int .i64 m,.slice a n c,.int .i64 la,.bool dn]) r.d∧OwnE w w' ev r.es∧OwnP w w' pv r.ps
end
set_option maxHeartbeats 3200000
theorem rmAll_cons (stays:List Str) (n:Str) (l:List Str) (d:Dsk):rmAll stays (n::l) d=if n∈stays then rmAll stays l d else if (d.remove n).2≠0 then d.remove n else rmAll stays l (d.remove n).1:=rfl
theorem dMend_ok {X:Nat→Prop}{w:World}{v:Value}{d:Dsk}(h:RD X w v d) (hX:∀k,w.heap.size≤k→X k) (hsm:d.most≤14000000) :
  Calls Tryz.prog 16 #[v] w (MendP X w (mendD unpackB d)):=by
 obtain⟨⟨es,ps,gd,x⟩,hs⟩:=zN (scanD unpackB d)
 have hm:mendD unpackB d=mendWith d ⟨es,ps,gd,x⟩:=by unfold mendD;rw[hs]
 rw[hm]
 obtain⟨R,hR⟩:=zN (mendWith d ⟨es,ps,gd,x⟩)
 rw[hR]
 unfold mendWith at hR
 simp only at hR
 obtain⟨m0,a0,n0,c0,la0,dn0,rfl⟩:=h.parts
 have S0:=zH (Stt.new h)
 have HX:=zH hX
 have HR:=zH hR
 have HLST:Hid (x=0→ps≠[]→(lastP ps).name∈namesF d.files∧rightL ps=true):=zH (fun hx hne=>by subst hx;exact scanD_last hs hne)
 have HS:=zH hs
 have HSM:=zH hsm
 clear h hX hs hm hR hsm
 obtain⟨w0,hw0⟩:=zN ((w.alloc (DB (.int .i64 m0) (.slice a0 n0 c0) (.int .i64 la0) (.bool dn0))).alloc (DB (.int .i64 0) (.slice none 0 0) (.int .i64 0) (.bool false)))
 rw[hw0]at S0
 unfold DB at hw0
 obtain⟨ne,hne⟩:=zN (es.length)
 obtain⟨np,hnp⟩:=zN (ps.length)
 have HNE:=zH hne
 have HNP:=zH hnp
 clear hne hnp
 go_enter Tryz.func16,Tryz.ntmps16
 go_upto_region 1 with fail
 clear hw0
 obtain⟨b0,b1,b2,b3,-⟩:=S0.out.cells
 have C:=zH (dScan6_ok S0.out.rd HSM.out HS.out)
 go_wp2_with fail
 refine C.out.mono ?_
 rintro z w1 ⟨v1,p1,rfl,o1,o2⟩
 obtain⟨ea,ec,rfl,-⟩:=o1.1.len
 obtain⟨pa,pc,rfl,hpc,hpc2,-⟩:=o2.pcs.elem
 rw[HNP.out]at hpc
 rw[HNE.out,HNP.out]
 have s1:MdS _ w w1 d m0 a0 n0 c0 la0 dn0 (.slice ea ne ec) (.slice pa np pc) es ps:=⟨S0.out.on o1.2.1,by rw[←HNE.out];exact o1.1,by rw[←HNP.out];exact o2.1,o2.2.1,fun g hg=>Nat.le_trans S0.out.lt (o1.2.2 g (by rw[HNE.out];exact hg)),fun g hg=>Nat.le_trans S0.out.lt (o2.2.2.2 g (by rw[HNP.out];exact hg))⟩
 have S1:=zH s1
 clear C o1 o2 s1 b0 b1 b2 b3 HS hpc2
 by_cases h1:x=0
 case neg =>
  have q1:(x !=0)=true:=by simpa using h1
  have hr:=HR.out
  rw[if_pos h1]at hr
  have HRR:=zH hr
  clear hr
  obtain⟨b0,b1,b2,b3,-⟩:=S1.out.s.cells
  obtain⟨u0,u1,u2,u3,r0,r1,r2,r3,f0,f1,f2,f3⟩:=S1.out.s.rcells
  go_wp2
  obtain⟨w9,hw9,D9,-,-,N9,B9⟩:=S1.out.fin HX.out
  rw[hw9]
  obtain⟨e0,e1,e2,e3,-⟩:=box_cells B9
  refine bodyPost_ret (v:=.tuple #[.agg #[.int .i64 m0,.slice a0 n0 c0,.int .i64 la0,.bool dn0],.slice none 0 0,.slice none 0 0,.int .i64 x]) (by simp[results,Tryz.results16,go_sem,e0,e1,e2,e3]) rfl ?_
  rw[←HRR.out]
  exact⟨m0,a0,n0,c0,la0,dn0,_,_,rfl,D9,OwnE.nil N9,OwnP.nil N9⟩
 subst h1
 have HLST2:Hid (ps≠[]→(lastP ps).name∈namesF d.files∧rightL ps=true):=zH (HLST.out (by first|rfl|trivial))
 clear HLST
 have hnpb:np≤1000:=by
  rw[←HNP.out]
  by_cases hn:ps=[]
  ·rw[hn];simp
  ·have:=(rightL_bound (HLST2.out hn).2).2.1
   omega
 have hr:=HR.out
 rw[if_neg (by simp)]at hr
 obtain⟨⟨d1,x1⟩,hcut⟩:=zN (cutD d ps gd)
 rw[hcut]at hr
 simp only at hr
 have HR2:=zH hr
 have HCUT:=zH hcut
 clear hr hcut HR
 obtain⟨tb,htb⟩:=zN (decide (0<np))
 have htb2:decide ((0:Int)<(np:Int))=tb:=by rw[←htb];simp
 have HTB:=zH htb
 go_upto_if 28 with fail
 clear htb htb2
 go_cut [9] (fun ev wx=>ev=.int .i64 0∧x1=0∧∃(m:Int) (a:Option Addr) (n c:Nat) (la:Int) (dn:Bool),MdS X w wx d1 m a n c la dn (.slice ea ne ec) (.slice pa np pc) es ps)
 case first =>
  by_cases h2:ps=[]
  ·have hn0:np=0:=by rw[←HNP.out,h2];rfl
   have hc:=HCUT.out
   unfold cutD at hc
   rw[if_neg (fun h=>h.1 h2)]at hc
   obtain⟨rfl,rfl⟩:d=d1∧0=x1:=by simpa using hc
   have ht:tb=false:=by rw[←HTB.out];simp[hn0]
   subst ht
   clear h2 hc hn0
   go_wp2_with fail
   go_meet
   case rel=>exact⟨rfl,by first|rfl|trivial,_,_,_,_,_,_,S1.out⟩
  obtain⟨h3,h4⟩:=HLST2.out h2
  have hn0:0<np:=by rw[←HNP.out];exact List.length_pos_iff.2 h2
  have ht:tb=true:=by rw[←HTB.out];simpa using hn0
  subst ht
  have hP:Pcs w1 (.slice pa np pc) ps:=⟨S1.out.p.src,S1.out.pok⟩
  obtain⟨pg,po,hpe,hpg,hpl,x0,-⟩:=pcs_lastAt (pa:=pa) (pc:=pc) (by rw[HNP.out];exact hP) h2
  rw[HNP.out]at x0 hpl
  have hpl3:=(rightL_bound h4).2.1
  rw[HNP.out]at hpl3
  subst hpe
  obtain⟨nm,hnm⟩:=zN ((lastP ps).name)
  rw[hnm]at x0 h3
  obtain⟨k,fg,fo,ba,bc,hk,hkc,hcm,rfl,hfg,hfc,hfind⟩:=S1.out.s.rd.finds h3
  obtain⟨sz,hsz⟩:=zN ((fileOf d.files nm).bytes.length)
  rw[hsz]at hfc
  have hc:=HCUT.out
  unfold cutD at hc
  rw[hnm,hsz]at hc
  have HC:=zH hc
  have HF:Hid (∀q:Regrown,Calls Tryz.prog 58 #[.agg #[.int .i64 m0,.slice (some ⟨fg,fo,none⟩) n0 c0,.int .i64 la0,.bool dn0],.string ⟨nm.toArray⟩] (grow (redrawn w1 q.d) q.os) fun e w''=>e=.returned (.int .i64 k)∧∃p':Regrown,w''=grow (redrawn w1 p'.d) p'.os):=zH fun q=>quiet_nw fun w2 hw2=>hfind w2 hw2
  have hsub:IntKind.i64.wrap ((np:Int)-1)=((np-1:Nat):Int):=by rw[show (np:Int)-1=((np-1:Nat):Int) by omega];exact IntWalk.i64_in _ (by omega)
  have hnn0:(0:Int)≤((np-1:Nat):Int):=by omega
  have hnn1:((np-1:Nat):Int)<(np:Int):=by omega
  have hnn2:np-1<np:=by omega
  have H2:=zH h2
  unfold maxLen at hcm
  clear hc hfind hP h2 h3 h4 hnm hsz
  obtain⟨b0,b1,b2,b3,-⟩:=S1.out.s.cells
  have hbl:=lt_of_block S1.out.s.box
  go_wp2_with fail
  go_upto_region 6 with fail
  have hk0:(0:Int)≤(k:Int):=by omega
  have hk1:(k:Int)<(n0:Int):=by omega
  have b0:=cellG b0
  have b1:=cellG b1
  have b2:=cellG b2
  have b3:=cellG b3
  have hfc:=cellG hfc
  refine wp_region_quiet_below (by kernel_rfl) (by kernel_rfl) ?_
  repeat (first|go_big_quiet_step (first|with_reducible exact HF.out _)|quiet_step (first|with_reducible exact HF.out _))
  refine wpQuiet_nil ?_
  intro w2 hw2
  have N2:=zH (Nw.of_regrown hw2)
  have T2:=zH (S1.out.on N2.out)
  clear hw2 b0 b1 b2 b3 hfc HF hk0 hk1 hk hkc hcm hfg x0 hpg hpl hpl3 hsub hnn0 hnn1 hnn2 hbl hn0
  obtain⟨tg,htg⟩:=zN (decide (gd<(sz:Int)))
  rw[htg]
  cases tg
  case false =>
   have h5:¬ gd<(sz:Int):=by simpa using htg
   have hc:=HC.out
   rw[if_neg (fun h=>h5 h.2)]at hc
   obtain⟨rfl,rfl⟩:d=d1∧0=x1:=by simpa using hc
   clear hc h5 htg
   go_wp2_with fail
   go_meet
   case rel=>exact⟨rfl,by first|rfl|trivial,_,_,_,_,_,_,T2.out⟩
  have h5:gd<(sz:Int):=by simpa using htg
  have hc:=HC.out
  rw[if_pos ⟨H2.out,h5⟩]at hc
  have HC2:=zH hc
  clear hc h5 htg HC
  have RC:=zH (T2.out.s.rd.cut T2.out.s.fresh HC2.out)
  obtain⟨b0,b1,b2,b3,-⟩:=T2.out.s.cells
  go_wp2_with fail
  refine RC.out.mono ?_
  rintro z w3 ⟨m1,a1,n1,c1,la1,dn1,rfl,dd,nn⟩
  obtain⟨w4,hw4,s4,o4⟩:=T2.out.step dd nn
  have S4:=zH s4
  obtain⟨-,-,-,-,g0,g1,g2,g3⟩:=(T2.out.on nn).s.cells
  obtain⟨y0,y1,y2,y3,-⟩:=(T2.out.on nn).s.cells
  have hbl:=lt_of_block (T2.out.on nn).s.box
  clear RC dd nn s4 o4 b0 b1 b2 b3
  go_upto_region 8 with fail
  (try rw[hw4])
  clear hw4 y0 y1 y2 y3 g0 g1 g2 g3 hbl
  by_cases h6:x1=0
  case neg =>
   have q6:(x1 !=0)=true:=by simpa using h6
   have hr:=HR2.out
   rw[if_pos h6]at hr
   have HRR:=zH hr
   clear hr h6
   obtain⟨b0,b1,b2,b3,-⟩:=S4.out.s.cells
   obtain⟨u0,u1,u2,u3,r0,r1,r2,r3,f0,f1,f2,f3⟩:=S4.out.s.rcells
   go_wp2
   obtain⟨w9,hw9,D9,-,-,N9,B9⟩:=S4.out.fin HX.out
   rw[hw9]
   obtain⟨e0,e1,e2,e3,-⟩:=box_cells B9
   refine bodyPost_ret (v:=.tuple #[.agg #[.int .i64 m1,.slice a1 n1 c1,.int .i64 la1,.bool dn1],.slice none 0 0,.slice none 0 0,.int .i64 x1]) (by simp[results,Tryz.results16,go_sem,e0,e1,e2,e3]) rfl ?_
   rw[←HRR.out]
   exact⟨m1,a1,n1,c1,la1,dn1,_,_,rfl,D9,OwnE.nil N9,OwnP.nil N9⟩
  subst h6
  go_wp2_with fail
  go_meet
  case rel=>exact⟨rfl,by first|rfl|trivial,_,_,_,_,_,_,S4.out⟩
 case rest =>
  obtain⟨rfl,rfl,m1,a1,n1,c1,la1,dn1,s2⟩:=hcut
  have S2:=zH s2
  have hr:=HR2.out
  rw[if_neg (by simp)]at hr
  have HR3:=zH hr
  obtain⟨hnl,hnc,hcm,fnm⟩:=s2.s.rd.names
  obtain⟨NL,hNL⟩:=zN (d1.list)
  rw[hNL]at hnl fnm
  have FN:=zH fnm
  have HNL:=zH hNL
  have HNN:=zH hnl
  unfold maxLen at hcm
  obtain⟨RA,hRA⟩:=zN (rmAll (staysOf ps) NL d1)
  have HRA:=zH hRA
  have HR4:Hid ((if RA.2≠0 then (⟨RA.1,[],[],RA.2⟩:MendR) else ⟨RA.1,es,ps,0⟩)=R):=zH (by rw[←hRA,←hNL];exact hr)
  clear s2 hr HR2 HCUT HR3 fnm hNL hRA hnl S1 HLST2 HTB
  obtain⟨b0,b1,b2,b3,-⟩:=S2.out.s.cells
  go_upto_region 12 with fail
  clear b0 b1 b2 b3
  go_loopw [9,12] (fun ev iv wr=>∃(k:Nat) (dk:Dsk) (m:Int) (a:Option Addr) (n c:Nat) (la:Int) (dn:Bool),ev=.int .i64 0∧k≤n1∧iv=.int .i64 k∧rmAll (staysOf ps) (NL.drop k) dk=RA∧MdS X w wr dk m a n c la dn (.slice ea ne ec) (.slice pa np pc) es ps∧FNm w wr a1 NL) (fun _ iv _=>n1-(intOf iv).toNat)
  case atStart=>exact⟨0,d1,m1,a1,n1,c1,la1,dn1,rfl,by omega,rfl,HRA.out,S2.out,FN.out⟩
  case round =>
   obtain⟨k,dk,mk,ak,nk,ck,lak,dnk,rfl,hk,rfl,hra,sk,fk⟩:=hrel
   clear S2 FN HRA
   have HRA:=zH hra
   have SK:=zH sk
   have FK:=zH fk
   clear hra sk fk
   by_cases hlt:k<n1
   case neg =>
    obtain rfl:k=n1:=by omega
    have q7:decide ((k:Int)<(k:Int))=false:=by simp
    have hra:=HRA.out
    rw[List.drop_of_length_le (by rw[HNN.out];exact Nat.le_refl _)]at hra
    unfold rmAll at hra
    have hr:=HR4.out
    rw[←hra,if_neg (by simp)]at hr
    have HRR:=zH hr
    clear hra hr
    obtain⟨b0,b1,b2,b3,-⟩:=SK.out.s.cells
    obtain⟨u0,u1,u2,u3,r0,r1,r2,r3,f0,f1,f2,f3⟩:=SK.out.s.rcells
    go_wp2
    obtain⟨w9,hw9,D9,E9,P9,N9,B9⟩:=SK.out.fin HX.out
    rw[hw9]
    obtain⟨e0,e1,e2,e3,-⟩:=box_cells B9
    refine bodyPost_ret (v:=.tuple #[.agg #[.int .i64 mk,.slice ak nk ck,.int .i64 lak,.bool dnk],.slice ea ne ec,.slice pa np pc,.int .i64 0]) (by simp[results,Tryz.results16,go_sem,e0,e1,e2,e3]) rfl ?_
    rw[←HRR.out]
    exact⟨mk,ak,nk,ck,lak,dnk,_,_,rfl,D9,E9,P9⟩
   have q7:decide ((k:Int)<(n1:Int))=true:=by simp;omega
   have hkl:k<NL.length:=by rw[←HNN.out];exact hlt
   obtain⟨nm,hnm⟩:=zN (NL[k]'hkl)
   have hra:=HRA.out
   rw[List.drop_eq_getElem_cons hkl,hnm,rmAll_cons]at hra
   have HRA2:=zH hra
   have FC:Hid (∀wz,FNm w wz a1 NL→∃g o,a1=some ⟨g,o,none⟩∧g<wz.heap.size∧wz.cell? ⟨g,o+k*3,none⟩=some (.string ⟨nm.toArray⟩)):=zH (fun wz hz=>by
    obtain⟨g,o,z1,z2,-,z4⟩:=hz k hkl
    rw[hnm]at z4
    exact⟨g,o,z1,z2,z4⟩)
   obtain⟨fg,fo,hae,-,-⟩:=FC.out _ FK.out
   subst hae
   have FD:Hid (∀wz,FNm w wz (some ⟨fg,fo,none⟩) NL→fg<wz.heap.size∧wz.cell? ⟨fg,fo+k*3,none⟩=some (.string ⟨nm.toArray⟩)):=zH (fun wz hz=>by
    obtain⟨g,o,z1,z2,z4⟩:=FC.out wz hz
    cases z1
    exact⟨z2,z4⟩)
   clear hra hnm hkl FC HRA
   obtain⟨z1,z2⟩:=FD.out _ FK.out
   have hk0:(0:Int)≤(k:Int):=by omega
   obtain⟨sb,hsb⟩:=zN ((nm==[109,97,110,105,102,101,115,116]))
   have HSB:Hid (sb=decide (nm∈manifestS::(ps.take 0).map Pc.name)):=zH (by
    rw[←hsb]
    by_cases he:nm=[109,97,110,105,102,101,115,116]
    ·rw[he];rfl
    ·rw[decide_eq_false (by simpa [manifestS] using he)];simpa using he)
   go_upto_region 16 with fail
   clear hsb z1 z2
   go_loopw [13,14] (fun sv jv wr=>∃(j:Nat) (s:Bool),j≤np∧jv=.int .i64 j∧sv=.bool s∧s=decide (nm∈manifestS::(ps.take j).map Pc.name)∧MdS X w wr dk mk ak nk ck lak dnk (.slice ea ne ec) (.slice pa np pc) es ps∧FNm w wr (some ⟨fg,fo,none⟩) NL) (fun _ jv _=>np-(intOf jv).toNat)
   case atStart=>exact⟨0,sb,Nat.zero_le _,rfl,rfl,HSB.out,SK.out,FK.out⟩
   case round =>
    obtain⟨j,s,hj,rfl,rfl,hs,sj,fj⟩:=hrel
    clear SK FK HSB
    have SJ:=zH sj
    have FJ:=zH fj
    have HSJ:=zH hs
    clear sj fj hs
    by_cases hjlt:j<np
    case pos =>
     have q8:decide ((j:Int)<(np:Int))=true:=by simp;omega
     have hP:Pcs wr (.slice pa np pc) ps:=⟨SJ.out.p.src,SJ.out.pok⟩
     obtain⟨pg,po,hpe,hpg,x0,-⟩:=pcs_at hP HNP.out hjlt
     subst hpe
     obtain⟨z1,z2⟩:=FD.out _ FJ.out
     have hjl:j<ps.length:=by rw[HNP.out];exact hjlt
     obtain⟨pn,hpn⟩:=zN ((ps[j]'hjl).name)
     rw[hpn]at x0
     have hnext:decide (nm∈manifestS::(ps.take (j+1)).map Pc.name)=(s || (pn==nm)):=by
      rw[HSJ.out,List.take_add_one,List.getElem?_eq_getElem hjl]
      simp only[Option.toList_some,List.map_append,List.map_cons,List.map_nil,hpn]
      by_cases h1:nm∈manifestS::(ps.take j).map Pc.name
      ·rw[decide_eq_true h1,Bool.true_or,decide_eq_true]
       rw[←List.cons_append]
       exact List.mem_append_left _ h1
      ·rw[decide_eq_false h1,Bool.false_or]
       by_cases h2:pn=nm
       ·rw[h2];simp
       ·rw[decide_eq_false]
        ·simpa using h2
        ·rw[←List.cons_append,List.mem_append]
         rintro (h|h)
         ·exact h1 h
         ·rw[List.mem_singleton]at h
          exact h2 h.symm
     have HNX:=zH hnext
     obtain⟨tq,htq⟩:=zN ((pn==nm))
     rw[htq]at HNX
     have hj0:(0:Int)≤(j:Int):=by omega
     have hj1:(j:Int)<(np:Int):=by omega
     have hk1:(k:Int)<(n1:Int):=by omega
     have hwj:IntKind.i64.wrap ((j:Int)+1)=((j+1:Nat):Int):=by rw[←Int.natCast_one,←Int.natCast_add];exact IntWalk.i64_in _ (by omega)
     clear hnext hpn hP hjl
     cases s
     ·rw[Bool.false_or]at HNX
      go_upto_region 18 with fail
      go_quiet (fail)
      go_wp2_with fail
      go_roundw
      case rel=>exact⟨j+1,tq,by omega,by first|rfl|(simp;done)|rw[hwj],rfl,HNX.out.symm,SJ.out.on ((Nw.refl _).drewN _),FJ.out.nw ((Nw.refl _).drewN _)⟩
      case measure=>simp only[intOf];omega
     ·rw[Bool.true_or]at HNX
      go_upto_region 18 with fail
      go_quiet (fail)
      go_wp2_with fail
      go_roundw
      case rel=>exact⟨j+1,true,by omega,by first|rfl|(simp;done)|rw[hwj],rfl,HNX.out.symm,SJ.out.on ((Nw.refl _).drewN _),FJ.out.nw ((Nw.refl _).drewN _)⟩
      case measure=>simp only[intOf];omega
    obtain rfl:j=np:=by omega
    have q8:decide ((j:Int)<(j:Int))=false:=by simp
    have hs:=HSJ.out
    rw[List.take_of_length_le (by rw[HNP.out];exact Nat.le_refl _)]at hs
    have hwk:IntKind.i64.wrap ((k:Int)+1)=((k+1:Nat):Int):=by rw[←Int.natCast_one,←Int.natCast_add];exact IntWalk.i64_in _ (by omega)
    cases s
    case true =>
     have hin:nm∈staysOf ps:=of_decide_eq_true hs.symm
     have hra:=HRA2.out
     rw[if_pos hin]at hra
     have HRA3:=zH hra
     clear hs hin hra
     go_wp2_with fail
     go_roundw
     case rel=>exact⟨k+1,dk,mk,ak,nk,ck,lak,dnk,rfl,by omega,by first|rfl|(simp;done)|rw[hwk],HRA3.out,SJ.out,FJ.out⟩
     case measure=>simp only[intOf];omega
    have hin:nm∉staysOf ps:=of_decide_eq_false hs.symm
    have hra:=HRA2.out
    rw[if_neg hin]at hra
    obtain⟨⟨d2,x2⟩,hrm⟩:=zN (dk.remove nm)
    rw[hrm]at hra
    simp only at hra
    have HRA3:=zH hra
    have HRM:=zH hrm
    clear hs hin hra hrm
    obtain⟨z1,z2⟩:=FD.out _ FJ.out
    obtain⟨b0,b1,b2,b3,-⟩:=SJ.out.s.cells
    have hbl:=lt_of_block SJ.out.s.box
    have hk1:(k:Int)<(n1:Int):=by omega
    have RC:=zH (fun (W':World) (hW:Nw wr W')=>(SJ.out.on hW).s.rd.remove (SJ.out.on hW).s.fresh HRM.out)
    have SQ:=zH (fun (W':World) (hW:Nw wr W')=>(SJ.out.on hW).s.cells)
    go_upto_region 20 with fail
    go_region_with (refine (RC.out _ (Nw.refl wr).drew).mono ?_;rintro e w5 ⟨m',a',n',c',la',dn',rfl,dd,nn⟩;have DD:=zH dd;have N5:=zH (((Nw.refl wr).drew).trans nn);clear dd nn;obtain⟨y0,y1,y2,y3,g0,g1,g2,g3⟩:=SQ.out _ N5.out)
    all_goals
     obtain⟨w6,hw6,s6,o6⟩:=SJ.out.step DD.out N5.out
     have S6:=zH s6
     have F6:=zH ((FJ.out.nw N5.out).put o6)
     rw[hw6]
     clear s6 o6 hw6 y0 y1 y2 y3 g0 g1 g2 g3 RC SQ b0 b1 b2 b3 z1 z2 hbl
     by_cases h6:x2=0
     case neg =>
      have q6:(x2 !=0)=true:=by simpa using h6
      have hra:=HRA3.out
      rw[if_pos h6]at hra
      have hr:=HR4.out
      rw[←hra]at hr
      simp only at hr
      rw[if_pos h6]at hr
      have HRR:=zH hr
      clear hr hra h6
      have S7:=zH (S6.out.on ((Nw.refl _).drew))
      obtain⟨b0,b1,b2,b3,-⟩:=S6.out.s.cells
      obtain⟨u0,u1,u2,u3,r0,r1,r2,r3,f0,f1,f2,f3⟩:=S6.out.s.rcells
      go_wp2
      obtain⟨w9,hw9,D9,-,-,N9,B9⟩:=S6.out.fin HX.out
      rw[hw9]
      obtain⟨e0,e1,e2,e3,-⟩:=box_cells B9
      obtain⟨i0,i1,i2,i3,-⟩:=box_cells (((Nw.refl w9).drew).at_ B9)
      refine bodyPost_ret (v:=.tuple #[.agg #[.int .i64 m',.slice a' n' c',.int .i64 la',.bool dn'],.slice none 0 0,.slice none 0 0,.int .i64 x2]) (by simp[results,Tryz.results16,go_sem,e0,e1,e2,e3]) rfl ?_
      rw[←HRR.out]
      first
       |exact⟨m',a',n',c',la',dn',_,_,rfl,D9,OwnE.nil N9,OwnP.nil N9⟩
       |exact⟨m',a',n',c',la',dn',_,_,rfl,D9.nw ((Nw.refl _).drew),OwnE.nil N9.drew,OwnP.nil N9.drew⟩
     case pos =>
      subst h6
      have hra:=HRA3.out
      rw[if_neg (by simp)]at hra
      have HRA4:=zH hra
      have S7:=zH (S6.out.on ((Nw.refl _).drew))
      clear hra
      go_wp2_with fail
      go_roundw
      case rel =>
       first
        |exact⟨k+1,d2,m',a',n',c',la',dn',rfl,by omega,by first|rfl|(simp;done)|rw[hwk],HRA4.out,S6.out,F6.out⟩
        |exact⟨k+1,d2,m',a',n',c',la',dn',rfl,by omega,by first|rfl|(simp;done)|rw[hwk],HRA4.out,S7.out,F6.out.nw ((Nw.refl _).drew)⟩
      case measure=>simp only[intOf];omega
set_option maxHeartbeats 800000
def XO (X:Nat→Prop) (w0:World):Nat→Prop:=fun k=>X k∨k<w0.heap.size
structure TL (X Y:Nat→Prop) (w0 w:World) (p b:Nat) (dp:Dsk) (L:Lg) (dv:Value) (dd:Dsk) (lv:Value) (Ld:Lg):Prop where
 log:HasL (fun k=>XO X w0 k∨Y k) w0 w p b dp L
 doc:RD (XO X w0) w dv dd
 dlog:LogV (XO X w0) w lv Ld
 off:∀k,X k→¬ Y k
 ne:Ld.l≠[]
def RDM (X:Nat→Prop) (w:World) (d':Dsk) (L':Lg) (x:Int) (e:Ending) (w':World):Prop:=
 ∃(m:Int) (a:Option Addr) (n c:Nat) (la:Int) (dn:Bool) (pa:Option Addr) (pc:Nat),e=.returned (.tuple #[.agg #[.int .i64 m,.slice a n c,.int .i64 la,.bool dn],.agg #[.int .i64 L'.size,.slice pa L'.l.length pc,.int .i64 L'.n,.int .i64 L'.acked,.int .i64 L'.bytes,.bool L'.over],.int .i64 x]) ∧
  RD X w' (.agg #[.int .i64 m,.slice a n c,.int .i64 la,.bool dn]) d'∧LogV X w' (.agg #[.int .i64 L'.size,.slice pa L'.l.length pc,.int .i64 L'.n,.int .i64 L'.acked,.int .i64 L'.bytes,.bool L'.over]) L'∧Nw w w'∧(L'.l≠[]∨pa=none)
section
variable {X X' Y Z:Nat→Prop}{w0 w w':World}{p p' b:Nat}{dp dp' dd dd' d:Dsk}{L L' Ld Ld':Lg}{dv dv' lv lv':Value}
end
end Go.Proofs.YtkbenkldfehhlaaGreatDoor
