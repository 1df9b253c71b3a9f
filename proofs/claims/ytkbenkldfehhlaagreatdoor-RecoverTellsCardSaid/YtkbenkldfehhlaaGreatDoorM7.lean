/-
  Texts merged by a program of this claim's: Vec, BytesA, BytesB, BytesC, Texts, Has.
-/
import Derived.Test.YtkbenkldfehhlaaGreatDoorM1
import Derived.ArgAppend
import Derived.Laws.IdiomCopy
import Derived.Lib.ConvBytes
import Derived.Test.YtkbenkldfehhlaaGreatDoorM2
import Derived.Test.YtkbenkldfehhlaaGreatDoorM6
import Derived.Lib.AppendZeros
import Derived.Lib.Zigzag
import Derived.Lib.EndianBits
import Derived.Laws.Bits64b
import Derived.Shelf.Spec.TrailingZeros
import Derived.Test.YtkbenkldfehhlaaGreatDoorM5
import Derived.Lib.SlBytesConst
namespace Go.Proofs.YtkbenkldfehhlaaGreatDoor
open Go Go.RowKit
theorem addr_add (g o n:Nat):(⟨g,o,none⟩:Addr).add n=⟨g,o+n,none⟩:=by
 unfold Addr.add
 split
 ·rename_i h;subst h;rfl
 ·rfl
def SrcV (k:Nat) (w:World) (v:Value) (n:Nat) (cs:List Value):Prop:=
 cs.length=n*k∧((∃a,v=.slice a 0 0∧n=0)∨∃g o cap,v=.slice (some ⟨g,o,none⟩) n cap∧n≤cap∧cap≤maxLen∧g<w.heap.size∧∀j (h:j<cs.length),w.cell? ⟨g,o+j,none⟩=some cs[j])
def Vec (k:Nat) (w:World) (v:Value) (n:Nat) (cs:List Value):Prop:=
 cs.length=n*k∧((v=.slice none 0 0∧n=0)∨∃g o cap,v=.slice (some ⟨g,o,none⟩) n cap∧n≤cap∧cap≤maxLen∧g<w.heap.size ∧
  (∀j,j<cap*k→(w.cell? ⟨g,o+j,none⟩).isSome=true)∧(∀j,j<cap*k→w.frozen? ⟨g,o+j,none⟩=false)∧∀j (h:j<cs.length),w.cell? ⟨g,o+j,none⟩=some cs[j])
section
variable {k n:Nat}{w w':World}{v:Value}{cs:List Value}
theorem Vec.src (h:Vec k w v n cs):SrcV k w v n cs:=by
 obtain⟨h0,⟨rfl,h⟩|⟨g,o,cap,rfl,h1,h2,h3,-,-,h6⟩⟩:=h
 ·exact⟨h0,.inl ⟨_,rfl,h⟩⟩
 ·exact⟨h0,.inr ⟨g,o,cap,rfl,h1,h2,h3,h6⟩⟩
theorem Vec.nil {k:Nat}{w:World}:Vec k w (.slice none 0 0) 0 []:=⟨by simp,.inl ⟨rfl,rfl⟩⟩
theorem Vec.lt (h:Vec k w v n cs):∀g,v.ownBlock=some g→g<w.heap.size:=by
 obtain⟨-,⟨rfl,-⟩|⟨g,o,cap,rfl,-,-,h3,-⟩⟩:=h
 ·intro g hg;cases hg
 ·intro g' hg;cases hg;exact h3
theorem Vec.keep (h:Vec k w v n cs) (hs:w.heap.size≤w'.heap.size) (hb:∀g,v.ownBlock=some g→w'.heap[g]? = w.heap[g]?):Vec k w' v n cs:=by
 obtain⟨h0,h|⟨g,o,cap,rfl,h1,h2,h3,h4,h5,h6⟩⟩:=h
 ·exact⟨h0,.inl h⟩
 ·have hg:=hb g rfl
  refine⟨h0,.inr ⟨g,o,cap,rfl,h1,h2,Nat.lt_of_lt_of_le h3 hs,fun j hj=>?_,fun j hj=>?_,fun j hj=>?_⟩⟩
  ·rw[World.cell?_of_block (w:=w) hg];exact h4 j hj
  ·rw[World.frozen?_of_block (w:=w) hg];exact h5 j hj
  ·rw[World.cell?_of_block (w:=w) hg];exact h6 j hj
theorem Vec.nw (h:Vec k w v n cs) (hw:Nw w w'):Vec k w' v n cs:=h.keep hw.size fun g hg=>hw.block g (h.lt g hg) (fun hf=>hf)
theorem Vec.len (h:Vec k w v n cs):∃a cap,v=.slice a n cap∧n≤cap∧cap≤maxLen:=by
 obtain⟨-,⟨rfl,rfl⟩|⟨g,o,cap,rfl,h1,h2,-⟩⟩:=h
 ·exact⟨_,_,rfl,by simp,by simp⟩
 ·exact⟨_,_,rfl,h1,h2⟩
theorem SrcV.nw (h:SrcV k w v n cs) (hw:Nw w w'):SrcV k w' v n cs:=by
 obtain⟨h0,h|⟨g,o,cap,rfl,h1,h2,h3,h6⟩⟩:=h
 ·exact⟨h0,.inl h⟩
 ·exact⟨h0,.inr ⟨g,o,cap,rfl,h1,h2,Nat.lt_of_lt_of_le h3 hw.size,fun j hj=>hw.cell (h6 j hj)⟩⟩
theorem SrcV.len (h:SrcV k w v n cs):∃a cap,v=.slice a n cap∧n≤cap∧cap≤maxLen:=by
 obtain⟨-,⟨a,rfl,rfl⟩|⟨g,o,cap,rfl,h1,h2,-⟩⟩:=h
 ·exact⟨_,_,rfl,by simp,by simp⟩
 ·exact⟨_,_,rfl,h1,h2⟩
theorem Vec.rd {α:Type}{f:α→Value}{l:List α}(h:Vec 1 w v l.length (l.map f)):Rd f w v l:=by
 obtain⟨-,⟨rfl,hn⟩|⟨g,o,cap,rfl,h1,h2,h3,h4,-,h6⟩⟩:=h
 ·exact .inl ⟨_,rfl,List.eq_nil_of_length_eq_zero hn⟩
 ·refine .inr ⟨g,o,cap,rfl,h1,h2,h3,fun i hi=>?_⟩
  have:=h6 i (by simpa using hi)
  simpa using this
theorem SrcV.of_rd {α:Type}{f:α→Value}{l:List α}(h:Rd f w v l):SrcV 1 w v l.length (l.map f):=by
 rcases h with ⟨a,rfl,rfl⟩|⟨g,o,cap,rfl,h1,h2,hg,h3⟩
 ·exact⟨by simp,.inl ⟨_,rfl,rfl⟩⟩
 ·refine⟨by simp,.inr ⟨g,o,cap,rfl,h1,h2,hg,fun j hj=>?_⟩⟩
  have:=h3 j (by simpa using hj)
  simpa using this
theorem Vec.of_owns {base e:Nat}(h:w.ownsRow base e k v n cs):Vec k w v n cs∧∀g,v.ownBlock=some g→base≤g:=by
 obtain⟨h0,⟨rfl,hn⟩|⟨g,cap,cur,rfl,hb,h1,h2,h3,h4,h5⟩⟩:=h
 ·exact⟨⟨h0,.inl ⟨rfl,hn⟩⟩,fun g hg=>by cases hg⟩
 ·refine⟨⟨h0,.inr ⟨g,0,cap,rfl,h2,h3,lt_of_block h1,fun j hj=>?_,fun j hj=>?_,fun j hj=>?_⟩⟩,fun g' hg=>by cases hg;exact hb⟩
  ·have:j<cur.size:=by omega
   simp[World.cell?,h1,this]
  ·simp[World.frozen?,h1]
  ·have e:cur.toList[j]? = cs[j]?:=by rw[←h5,List.getElem?_take];rw[if_pos (by omega)]
   have e2:cur[j]? = some cs[j]:=by
    have:cur.toList[j]? = cur[j]?:=by simp
    rw[←this,e];simp
   simp[World.cell?,h1,e2]
theorem Only.setCells {S:Nat→Prop}{b:Nat}:∀(vs:List Value) (o:Nat) (w:World),(b<w.heap.size→S b)→Only S w (w.setCells b o vs)
 |[],_,w,_=>Only.refl w
 |u::r,o,w,hb=>by
  rw[World.setCells]
  exact ((Only.refl w).setCell (p:=⟨b,o,none⟩) hb u).trans (Only.setCells r (o+1) _ (fun h=>hb (by simpa using h)))
theorem run_append_vec {P:Program}(t ty e:TypeId) (i:TypeInfo) (z:Value) (size bytes:Nat) (ht:P.underlying t=some (.slice e)) (hi:P.info? e=some i) (hz:i.zero=some z)
  (hsize:i.size=size) (hby:i.bytes=bytes) (hzs:z.cells.size=size) (hsz:0<size){x:Value}{m:Nat}{news:List Value}(hv:Vec size w v n cs) (hx:SrcV size w x m news) (h1:∀u∈news,u.oneCell'=true)
  (h63:n+m≤maxLen) (hbytes:(n+m)*bytes≤140737488355328) :
  ∃v' w',(Builtin.append_ #[t,t] ty #[v,x]).run P w=.ok v' w'∧Vec size w' v' (n+m) (cs++news)∧Only (fun b=>v.ownBlock=some b) w w' ∧
   (v'.ownBlock=v.ownBlock∨∀g,v'.ownBlock=some g→w.heap.size≤g):=by
 have hv0:=hv
 obtain⟨hxl,⟨ax,rfl,rfl⟩|⟨gx,ox,cx,rfl,hx1,hx2,hx3,hx4⟩⟩:=hx
 ·obtain rfl:news=[]:=List.eq_nil_of_length_eq_zero (by simpa using hxl)
  refine⟨v,w,?_,by simpa using hv,Only.refl _,.inl rfl⟩
  obtain⟨-,⟨rfl,rfl⟩|⟨g,o,cap,rfl,h2,-⟩⟩:=hv
  ·cases ax <;> simp[Builtin.append_,run_underlying ht,sizeOf,typeInfo,hi,Builtin.lenOf,Builtin.firstCells,loadCells,loadCellsFrom]
  ·cases ax <;> simp[Builtin.append_,run_underlying ht,sizeOf,typeInfo,hi,Builtin.lenOf,Builtin.firstCells,h2,storeCells,loadCells,loadCellsFrom]
 ·have hnews:∀j u,news[j]? = some u→w.cell? ((⟨gx,ox,none⟩:Addr).add j)=some u:=by
   intro j u hj
   obtain⟨hlt,he⟩:=List.getElem?_eq_some_iff.1 hj
   rw[addr_add,hx4 j hlt,he]
  obtain⟨hvl,⟨rfl,rfl⟩|⟨g,o,cap,rfl,g1,g2,g3,g4,g5,g6⟩⟩:=hv
  ·obtain rfl:cs=[]:=List.eq_nil_of_length_eq_zero (by simpa using hvl)
   obtain⟨v',w',hr,ho,hg,-⟩:=run_append_own (P:=P) w w.heap.size t ty e i z size bytes ht hi hz hsize hby hzs hsz _ 0 [] (World.ownsRow_nil w w.heap.size e size) ⟨gx,ox,none⟩ m cx news hxl hnews h1 (by simpa using h63) (by simpa using hbytes) (Nat.le_refl _)
   obtain⟨hV,hf⟩:=Vec.of_owns ho
   exact⟨v',w',hr,hV,(Only.refl w).grown hg (fun k hk _=>hk),.inr hf⟩
  ·have holds:∀j u,cs[j]? = some u→w.cell? ((⟨g,o,none⟩:Addr).add j)=some u:=by
    intro j u hj
    obtain⟨hlt,he⟩:=List.getElem?_eq_some_iff.1 hj
    rw[addr_add,g6 j hlt,he]
   by_cases hroom:n+m≤cap
   ·have hfit:(n+m)*size≤cap*size:=Nat.mul_le_mul_right _ hroom
    rw[Nat.add_mul]at hfit
    have c1:∀j,j<news.length→(w.cell? ⟨g,o+n*size+j,none⟩).isSome=true:=fun j hj=>by
     rw[Nat.add_assoc];exact g4 _ (by omega)
    have c2:∀j,j<news.length→w.frozen? ⟨g,o+n*size+j,none⟩=false:=fun j hj=>by
     rw[Nat.add_assoc];exact g5 _ (by omega)
    have hr:=run_append_room_cells (P:=P) (w:=w) t ty e i ht hi g o n cap ⟨gx,ox,none⟩ m cx news (by rw[hsize];exact hxl) hnews h1 hroom (by rw[hsize];exact c1) (by rw[hsize];exact c2)
    rw[hsize]at hr
    have hO:Only (fun b=>(Value.slice (some ⟨g,o,none⟩) n cap).ownBlock=some b) w (w.setCells g (o+n*size) news):=Only.setCells news _ w (fun _=>rfl)
    refine⟨_,_,hr,⟨by rw[List.length_append,hvl,hxl,Nat.add_mul],.inr ⟨g,o,cap,rfl,hroom,g2,Nat.lt_of_lt_of_le g3 hO.size,fun j hj=>?_,fun j hj=>?_,fun j hj=>?_⟩⟩,hO,.inl rfl⟩
    ·by_cases hin:n*size≤j∧j<n*size+news.length
     ·have:=World.cell?_setCells_in g news (o+n*size) w c1 (j-n*size) (by omega)
      rw[show o+n*size+(j-n*size)=o+j by omega]at this
      rw[this];rfl
     ·rw[World.cell?_setCells_out g news (o+n*size) w ⟨g,o+j,none⟩ (fun _ _=>by show o+j<o+n*size∨o+n*size+news.length≤o+j;omega)]
      exact g4 j hj
    ·rw[World.frozen?_setCells];exact g5 j hj
    ·by_cases hin:j<cs.length
     ·rw[World.cell?_setCells_out g news (o+n*size) w ⟨g,o+j,none⟩ (fun _ _=>by show o+j<o+n*size∨o+n*size+news.length≤o+j;omega),g6 j hin,List.getElem_append_left hin]
     ·have hj':j<cs.length+news.length:=by simpa using hj
      have:=World.cell?_setCells_in g news (o+n*size) w c1 (j-n*size) (by omega)
      rw[show o+n*size+(j-n*size)=o+j by omega]at this
      rw[this,List.getElem_append_right (by omega)]
      congr 2
      omega
   ·obtain⟨v',w',hr,ho,hg⟩:=run_append_arg_grows (P:=P) (w:=w) t ty e i z size bytes ht hi hz hsize hby hzs hsz ⟨g,o,none⟩ n cap cs hvl holds ⟨gx,ox,none⟩ m cx news hxl hnews (by omega) h63 hbytes
    obtain⟨hV,hf⟩:=Vec.of_owns ho
    exact⟨v',w',hr,hV,(Only.refl w).grown hg (fun k hk _=>by cases hk),.inr hf⟩
theorem wpList_append_vec {P:Program}{ops:Array Oper}{rest:List Oper}{o:Oper}{a:Act}{Q:Exit→Act→World→Prop}(hgd:o.guard=none) (s x:Operand) (t:TypeId)
  (ho:o.op=.call { callee:=.builtin .append,args:=#[s,x],argTypes:=#[t,t] })
  (e:TypeId) (i:TypeInfo) (z:Value) (size bytes:Nat) (ht:P.underlying t=some (.slice e)) (hi:P.info? e=some i) (hz:i.zero=some z) (hsize:i.size=size) (hby:i.bytes=bytes) (hzs:z.cells.size=size) (hsz:0<size)
  {src:Value}{m:Nat}{news:List Value}(hs:a.eval s=v) (hx:a.eval x=src) (hv:Vec size w v n cs) (hsrc:SrcV size w src m news) (h1:∀u∈news,u.oneCell'=true)
  (hlen:n+m≤maxLen) (hbytes:(n+m)*bytes≤140737488355328)
  (h:∀v' w',Vec size w' v' (n+m) (cs++news)→Only (fun k=>v.ownBlock=some k) w w'→(v'.ownBlock=v.ownBlock∨∀g,v'.ownBlock=some g→w.heap.size≤g) →
   wpList P ops Q rest (a.put o.dst v') w'):wpList P ops Q (o::rest) a w:=by
 obtain⟨v',w',hr,h2,h3,h4⟩:=run_append_vec (P:=P) (w:=w) t o.type e i z size bytes ht hi hz hsize hby hzs hsz hv hsrc h1 hlen hbytes
 refine wpList_plain hgd fun K hK=>?_
 unfold Oper.wp execOp
 simp only[ho,resolve,invoke,builtin,Sem.run_bind,Sem.run_pure,Result.andThen_ok,List.map_toArray,List.map_cons,List.map_nil,hs,hx,hr]
 exact hK _ _ (h v' w' h2 h3 h4)
theorem src_lit (w:World) (t:TypeId) (fz:Nat×Nat) (k n c:Nat) (cs:List Value) (hk:cs.length=n*k) (hn:n≤c) (hc:c≤maxLen) :
  SrcV k (w.alloc (.cells cs.toArray t fz)) (.slice (some ⟨w.heap.size,0,none⟩) n c) n cs:=by
 refine⟨hk,.inr ⟨w.heap.size,0,c,rfl,hn,hc,by simp,fun j hj=>?_⟩⟩
 have:(w.alloc (.cells cs.toArray t fz)).heap[w.heap.size]? = some (.cells cs.toArray t fz):=heap_alloc_new w _
 unfold World.cell?
 rw[show (⟨w.heap.size,0+j,none⟩:Addr).block=w.heap.size from rfl,this]
 simp[hj]
theorem Vec.of_conv (w:World) (e:TypeId) (s:List UInt8) (hs:s.length≤maxLen):Vec 1 (Lib.bytesWorld w e ⟨s.toArray⟩) (.slice (some ⟨w.heap.size,0,none⟩) s.length (grownCap w s.length 0 e)) s.length (s.map fun c=>Value.int .u8 c.toNat)∧Nw w (Lib.bytesWorld w e ⟨s.toArray⟩):=by
 have hge:=grownCap_ge w s.length 0 e
 have hcm:=grownCap_le_maxLen w s.length 0 e hs
 have hb:=Lib.bytesWorld_at_new w e ⟨s.toArray⟩
 have hcs:(Lib.bytesCells w e ⟨s.toArray⟩).size=grownCap w s.length 0 e:=by
  simp only[Lib.bytesCells,Array.size_append,Array.size_map,List.size_toArray,Array.size_replicate]
  show s.length+(grownCap w s.length 0 e-s.length)=_
  omega
 refine⟨⟨by simp,.inr ⟨w.heap.size,0,_,rfl,hge,hcm,by rw[Lib.bytesWorld_size];omega,fun j hj=>?_,fun j hj=>?_,fun j hj=>?_⟩⟩,?_⟩
 ·have:j<(Lib.bytesCells w e ⟨s.toArray⟩).size:=by rw[hcs];simpa using hj
  simp[World.cell?,hb,this]
 ·have:j<(Lib.bytesCells w e ⟨s.toArray⟩).size:=by rw[hcs];simpa using hj
  simp only[World.frozen?,hb,Nat.zero_add]
  simp;omega
 ·have hj':j<s.length:=by simpa using hj
  have:=Lib.bytesWorld_cell w e ⟨s.toArray⟩ j (by simpa [ByteArray.size] using hj')
  rw[Nat.zero_add,this]
  simp[List.getD,hj']
 ·refine⟨rfl,rfl,rfl,by rw[Lib.bytesWorld_size];omega,fun k hk _=>Lib.bytesWorld_at_old w e ⟨s.toArray⟩ k hk⟩
end
open Go.Sort
set_option maxRecDepth 100000
set_option maxHeartbeats 1600000
theorem u8_cell (c:UInt8):(u8 c).oneCell'=true:=rfl
theorem infoU8:(Tryz.prog.info? 5).map (fun i=>(i.zero,i.size,i.bytes))=some (some (.int .u8 0),1,1):=by kernel_rfl
def NewB (w:World) (l:List UInt8) (e:Ending) (w':World):Prop:=∃v',e=.returned v'∧Vec 1 w' v' l.length (l.map u8)∧Nw w w'∧∀g,v'.ownBlock=some g→w.heap.size≤g
theorem Grow_ok (w:World) (n:Nat) (hn:n≤140737488355328) :
  Calls Tryz.prog 193 #[.slice none 0 0,.int .i64 n] w (NewB w []):=by
 obtain⟨i0,hi,hz0,hz1,hz2⟩:=info_parts infoU8
 by_cases h0:n=0
 ·subst h0
  go_enter Tryz.func193,Tryz.ntmps193
  go_wp2
  go_ret
  exact⟨_,rfl,Vec.nil,Nw.refl _,fun g hg=>by cases hg⟩
 ·have hp:0<n:=by omega
  have hr:=Lib.run_append_nil_zeros (P:=Tryz.prog) w 79 3 79 5 i0 (.int .u8 0) .i64 .i64 Tryz.underlying79 Tryz.underlying3 hi hz0 n hp (by omega) (by omega) (by rw[hz2];omega)
  have HR:=zH hr
  clear hr
  have hcap:=grownCap_le_maxLen w n 0 5 (by unfold maxLen;omega)
  have hcge:=grownCap_ge w n 0 5
  generalize grownCap w n 0 5=cap at HR hcap hcge
  have HCP:=zH (And.intro hcap hcge)
  clear hcap hcge
  generalize hW:w.drew.alloc (.cells (Builtin.zeroCells (Value.int .u8 0).cells n++Builtin.zeroCells (Value.int .u8 0).cells (cap-n)) 5)=w1 at HR
  have HW:=zH hW
  clear hW
  go_enter Tryz.func193,Tryz.ntmps193
  go_wp2_with (at_builtin;refine Lib.wpList_append_run _ rfl _ _ 79 3 rfl _ _ rfl rfl _ _ HR.out ?_)
  go_wp2
  go_ret
  obtain⟨h1,h2⟩:=HCP.out
  have hN:Nw w w1:=by rw[←HW.out];exact (Nw.refl w).drew.alloc _
  have hb:w1.heap[w.heap.size]? = some (.cells (Builtin.zeroCells (Value.int .u8 0).cells n++Builtin.zeroCells (Value.int .u8 0).cells (cap-n)) 5 (0,0)):=by
   rw[←HW.out];exact heap_alloc_new w.drew _
  refine⟨_,rfl,⟨rfl,.inr ⟨w.heap.size,0,cap,rfl,Nat.zero_le _,h1,lt_of_block hb,fun j hj=>?_,fun j hj=>?_,fun j h=>absurd h (by simp)⟩⟩,hN,fun g hg=>by cases hg;exact Nat.le_refl _⟩
  ·have hsz:j<(Builtin.zeroCells (Value.int .u8 0).cells n++Builtin.zeroCells (Value.int .u8 0).cells (cap-n)).size:=by
    simp only[Array.size_append,size_zeroCells]
    simp only[show (Value.int .u8 0).cells.size=1 from rfl]
    omega
   rw[Nat.zero_add]
   simp only[World.cell?,hb]
   rw[Array.getElem?_eq_getElem hsz];rfl
  ·simp[World.frozen?,hb]
theorem and127 (m:Nat) (h:m<18446744073709551616):bits .and .u64 (m:Int) 127=((m % 128:Nat):Int):=by
 have:=bits_mask .u64 64 (by decide) Go.wraps_u64 7 (by decide) (m:Int) (by omega) (by omega)
 rw[show ((2:Int) ^ 7-1)=127 by decide]at this
 rw[this];omega
theorem or128:∀q:Nat,q<128→bits .or .u8 (q:Int) 128=((q+128:Nat):Int):=by
 have h:∀q:Fin 128,bits .or .u8 ((q.val:Nat):Int) 128=((q.val+128:Nat):Int):=by decide +kernel
 exact fun q hq=>h ⟨q,hq⟩
theorem sliceTen (g:Nat) (k:Nat) (hk:k≤9) (W:World):(Instr.sliceAt 182 (.pointer (some ⟨g,0,none⟩)) none (some (.int .i64 ((k:Int)+1))) none).run Tryz.prog W=.ok (.slice (some ⟨g,0,none⟩) (k+1) 10) W:=by
 have hal:Tryz.prog.arrayLen 182=10:=by kernel_rfl
 rw[run_sliceAt_array_h W 182 ⟨g,0,none⟩ (by kernel_rfl) .i64 ((k:Int)+1) (by omega) (by rw[hal];omega)]
 go_simp
theorem Uint_ok {w:World}{v:Value}{l:List UInt8}(hv:Vec 1 w v l.length (l.map u8)) (n:Nat) (hn:n<18446744073709551616) (hl:l.length≤100000000) :
  Calls Tryz.prog 126 #[v,.int .u64 n] w fun e w'=>∃v',e=.returned v'∧Vec 1 w' v' (l++uintB n).length ((l++uintB n).map u8)∧Only (fun k=>v.ownBlock=some k) w w'∧(v'.ownBlock=v.ownBlock∨∀g,v'.ownBlock=some g→w.heap.size≤g):=by
 have HV:=zH hv
 obtain⟨sa,sc,rfl,hsl⟩:=hv.len
 clear hv hsl
 obtain⟨i0,hi,hz0,hz1,hz2⟩:=info_parts infoU8
 have HI:=zH hi
 have HZ0:=zH hz0
 have HZ1:=zH hz1
 have HZ2:=zH hz2
 clear hi hz0 hz1 hz2
 go_enter Tryz.func126,Tryz.ntmps126
 go_wp2
 go_loopw [1,6] (fun n' k wr=>∃(pre:List UInt8) (m:Nat) (cs:Array Value),n'=.int .u64 m∧k=.int .i64 pre.length∧pre++uintB m=uintB n∧m*128 ^ pre.length<2 ^ 64∧pre.length≤9∧cs.size=10 ∧
  (∀j (h:j<pre.length),cs[j]? = some (Go.Proofs.YtkbenkldfehhlaaGreatDoor.u8 pre[j]))∧wr.heap[w.heap.size]? = some (.cells cs 182 (0,0))∧Nw w wr) (fun n' _ _=>(intOf n').toNat)
 case atStart=>exact⟨[],n,_,rfl,rfl,rfl,by simpa using hn,by simp,rfl,fun j h=>absurd h (by simp),heap_alloc_new _ _,(Nw.refl w).alloc _⟩
 case round =>
  obtain⟨pre,m,cs,rfl,rfl,hpre,hm,hk,hcs,hj,hb,hw⟩:=hrel
  have hmlt:m<18446744073709551616:=by
   have:m*1≤m*128 ^ pre.length:=Nat.mul_le_mul_left _ (Nat.one_le_pow _ _ (by decide))
   omega
  have hand:=and127 m hmlt
  have HP:=zH hpre
  have HM:=zH hm
  have HJ:=zH hj
  have HW:=zH hw
  have HC:=zH hcs
  clear hpre hm hj hw
  generalize hpl:pre.length=pl at hk
  have HPL:=zH hpl
  obtain⟨u,hc⟩:∃u,wr.cell? ⟨w.heap.size,pl,none⟩=some u:=by
   have hlt':pl<cs.size:=by omega
   simp[World.cell?,hb,hlt']
  have hf:wr.frozen? ⟨w.heap.size,pl,none⟩=false:=by simp[World.frozen?,hb]
  have HB:=zH hb
  clear hb hcs hpl
  have hlt:m % 128<128:=by omega
  have hq:((m % 128:Nat):Int) % 256=((m % 128:Nat):Int):=by omega
  by_cases hs:m<128
  ·have hdiv:(m:Int) / 128=0:=by omega
   have hmod:m % 128=m:=Nat.mod_eq_of_lt hs
   rw[hmod]at hand hq
   have hsl:=sliceTen w.heap.size pl hk
   have HS:Hid (SrcV 1 (wr.setCell ⟨w.heap.size,pl,none⟩ (.int .u8 m)) (.slice (some ⟨w.heap.size,0,none⟩) (pl+1) 10) (pl+1) ((pre++[UInt8.ofNat m]).map Go.Proofs.YtkbenkldfehhlaaGreatDoor.u8)):=by
    show SrcV _ _ _ _ _
    obtain rfl:=HPL.out
    refine⟨by simp,.inr ⟨w.heap.size,0,10,rfl,by omega,by decide,by simpa using lt_of_block HB.out,fun j hj'=>?_⟩⟩
    simp only[List.length_map,List.length_append,List.length_singleton]at hj'
    rw[Nat.zero_add]
    by_cases hjl:j<pre.length
    ·have:(⟨w.heap.size,pre.length,none⟩:Addr)≠⟨w.heap.size,j,none⟩:=fun e=>by injection e;omega
     rw[World.cell?_setCell_other (h:=this)]
     simp only[World.cell?,HB.out,HJ.out j hjl,List.getElem_map,List.getElem_append_left hjl]
     rfl
    ·obtain rfl:j=pre.length:=by omega
     rw[World.cell?_setCell_same (h:=hc)]
     simp[Go.Proofs.YtkbenkldfehhlaaGreatDoor.u8]
     omega
   have HV1:Hid (Vec 1 (wr.setCell ⟨w.heap.size,pl,none⟩ (.int .u8 m)) (.slice sa l.length sc) l.length (l.map Go.Proofs.YtkbenkldfehhlaaGreatDoor.u8)):=
    zH (HV.out.nw (Only.setCell (S:=fun _=>False) HW.out (fun h=>absurd h (by simp)) _))
   go_wp2_with (at_builtin;refine wpList_append_vec rfl _ _ 79 rfl 5 i0 (.int .u8 0) 1 1 Tryz.underlying79 HI.out HZ0.out HZ1.out HZ2.out rfl (by decide) rfl rfl HV1.out HS.out ?c1 ?c2 ?c3 ?_)
   case c1=>exact fun u hu=>by obtain⟨y,_,rfl⟩:=List.mem_map.1 hu;exact u8_cell y
   case c2=>unfold maxLen;omega
   case c3=>omega
   intro v' w2 h1 h2 h3
   have H1:=zH h1
   have H2:=zH h2
   have H3:=zH h3
   clear h1 h2 h3
   go_wp2
   go_ret
   have e:l++uintB n=l++(pre++[UInt8.ofNat m]):=by rw[←HP.out,uintB_small hs]
   have hw1:Nw w (wr.setCell ⟨w.heap.size,pl,none⟩ (.int .u8 m)):=Only.setCell (S:=fun _=>False) HW.out (fun h=>absurd h (by simp)) _
   refine⟨v',rfl,?_,hw1.only.trans' H2.out (fun k _ hk=>hk),H3.out.imp id (fun h g hg=>by have:=h g hg;have:=hw1.size;simp only[World.size_setCell]at *;omega)⟩
   have:=H1.out
   rw[e,List.map_append,List.map_append (l₂:=[UInt8.ofNat m]),List.map_singleton,show (l++(pre++[UInt8.ofNat m])).length=l.length+(pl+1) by simp[←HPL.out]]
   exact this
  ·have hne:((m:Int) / 128==0)=false:=by simp;omega
   have hor:=or128 (m % 128) hlt
   have c1:(wr.setCell ⟨w.heap.size,pl,none⟩ (.int .u8 ((m % 128:Nat):Int))).cell? ⟨w.heap.size,pl,none⟩=some (.int .u8 ((m % 128:Nat):Int)):=World.cell?_setCell_same _ _ _ hc
   have f1:(wr.setCell ⟨w.heap.size,pl,none⟩ (.int .u8 ((m % 128:Nat):Int))).frozen? ⟨w.heap.size,pl,none⟩=false:=by rw[World.frozen?_setCell];exact hf
   generalize hq0:m % 128=q at *
   have HQ0:=zH hq0
   clear hq0 hlt
   go_wp2
   have hmq:m % 128=q:=HQ0.out
   have hw1:Nw w ((wr.setCell ⟨w.heap.size,pl,none⟩ (.int .u8 (q:Int))).setCell ⟨w.heap.size,pl,none⟩ (.int .u8 ((q+128:Nat):Int))):=
    Only.setCell (S:=fun _=>False) (Only.setCell (S:=fun _=>False) HW.out (fun h=>absurd h (by simp)) _) (fun h=>absurd h (by simp)) _
   obtain rfl:=HPL.out
   have h64:m*128 ^ pre.length<2 ^ 64:=HM.out
   have hle:pre.length+1≤9:=by
    refine Nat.lt_of_not_le fun h9=>?_
    have e9:pre.length=9:=by omega
    rw[e9]at h64
    have:128*128 ^ 9≤m*128 ^ 9:=Nat.mul_le_mul_right _ (by omega)
    have e2:(2:Nat) ^ 64<128*128 ^ 9:=by decide
    omega
   have hb2:=heap_setCell_at (heap_setCell_at HB.out pre.length (.int .u8 (q:Int))) pre.length (.int .u8 ((q+128:Nat):Int))
   have hq7:(UInt8.ofNat (q+128)).toNat=q+128:=by simp;omega
   have hcs:cs.size=10:=HC.out
   go_roundw
   case rel =>
    refine⟨pre++[UInt8.ofNat (q+128)],m / 128,_,?_,?_,?_,?_,?_,?_,?_,hb2,hw1⟩
    ·simp
    ·simp
    ·rw[List.append_assoc,List.singleton_append,←HP.out,uintB_big hs,hmq]
    ·rw[List.length_append,List.length_singleton,Nat.pow_succ]
     refine Nat.lt_of_le_of_lt ?_ h64
     rw[Nat.mul_comm (128 ^ pre.length) 128,←Nat.mul_assoc]
     exact Nat.mul_le_mul_right _ (by omega)
    ·simpa using hle
    ·simp[hcs]
    ·intro j hj
     simp only[List.length_append,List.length_singleton]at hj
     by_cases hjl:j<pre.length
     ·rw[Array.getElem?_setIfInBounds_ne (by omega),Array.getElem?_setIfInBounds_ne (by omega),HJ.out j hjl,List.getElem_append_left hjl]
     ·obtain rfl:j=pre.length:=by omega
      rw[Array.getElem?_setIfInBounds_self_of_lt (by simp;omega)]
      simp only[List.getElem_append_right (Nat.le_refl _),Nat.sub_self,List.getElem_singleton,Go.Proofs.YtkbenkldfehhlaaGreatDoor.u8,hq7]
   case measure =>
    simp only[intOf]
    have e1:((m:Int) / 128).toNat=m / 128:=by omega
    simp[e1]
    omega
theorem xor_u32 (a b:Nat) (ha:a<4294967296) (hb:b<4294967296):bits .xor .u32 (a:Int) (b:Int)=((a ^^^ b:Nat):Int):=by
 show IntKind.u32.wrap ((BitVec.ofInt 32 (a:Int) ^^^ BitVec.ofInt 32 (b:Int)).toNat:Int)=_
 have h1:(BitVec.ofInt 32 (a:Int)).toNat=a:=by rw[BitVec.ofInt_natCast,BitVec.toNat_ofNat];exact Nat.mod_eq_of_lt (by omega)
 have h2:(BitVec.ofInt 32 (b:Int)).toNat=b:=by rw[BitVec.ofInt_natCast,BitVec.toNat_ofNat];exact Nat.mod_eq_of_lt (by omega)
 have h3:a ^^^ b<4294967296:=Nat.xor_lt_two_pow (n:=32) ha hb
 rw[BitVec.toNat_xor,h1,h2]
 exact wraps_u32 _ (by omega) (by omega)
theorem and1_u32 (a:Nat) (ha:a<4294967296):bits .and .u32 (a:Int) 1=((a % 2:Nat):Int):=by
 have:=bits_mask .u32 32 (by decide) wraps_u32 1 (by decide) (a:Int) (by omega) (by omega)
 rw[show ((2:Int) ^ 1-1)=1 by decide]at this
 rw[this];omega
theorem folded_ok (n:Int) (h0 : -9223372036854775808≤n) (h1:n≤9223372036854775807) (w:World) :
  Calls Tryz.prog 191 #[.int .i64 n] w fun e w'=>e=.returned (.int .u64 (zig n))∧w=w':=by
 by_cases hn:0≤n
 ·have e3:=bits_xor_u64_nat 0 (2*n.toNat) (by omega) (by omega)
  rw[Nat.zero_xor,show ((2*n.toNat:Nat):Int)=n*2 by omega]at e3
  have e4:((zig n:Nat):Int)=n*2:=by unfold zig;rw[if_pos hn];omega
  have E:=zH (e3.trans e4.symm)
  clear e3 e4
  have e1:n / 9223372036854775808=0:=by omega
  go_enter Tryz.func191,Tryz.ntmps191
  go_wp2
  go_ret
  refine⟨ret1 ?_,rfl⟩
  have:=E.out
  simpa [e1] using this
 ·have e2:IntKind.u64.wrap (IntKind.u64.wrap n*2)=(((2*n+18446744073709551616).toNat:Nat):Int):=by rw[IntKind.wrap_u64,IntKind.wrap_u64];omega
  have e0:IntKind.u64.wrap (-1)=((2 ^ 64-1:Nat):Int):=by decide
  have e3:=bits_xor_u64_nat (2 ^ 64-1) (2*n+18446744073709551616).toNat (by decide) (by omega)
  rw[Lib.xor_ones64 _ (by omega),←e2,←e0]at e3
  have e4:zig n=2 ^ 64-1-(2*n+18446744073709551616).toNat:=by unfold zig;rw[if_neg hn];omega
  rw[←e4]at e3
  have E:=zH e3
  clear e3 e4 e2 e0
  have e1:n / 9223372036854775808 = -1:=by omega
  go_enter Tryz.func191,Tryz.ntmps191
  go_wp2
  go_ret
  refine⟨ret1 ?_,rfl⟩
  have:=E.out
  simpa [e1] using this
def halfK (r k:Nat):Nat:=(List.range k).foldl (fun o k=>bitStep k r o) (r / 16)
theorem halfK_succ (r k:Nat):halfK r (k+1)=bitStep k r (halfK r k):=by simp[halfK,List.range_succ]
theorem halfK_lt {r:Nat}(h:r<4294967296):∀k,halfK r k<4294967296
 |0=>by simp only[halfK,List.range_zero,List.foldl_nil];omega
 |k+1=>by rw[halfK_succ];exact bitStep_lt (halfK_lt h k)
theorem halfK_four (r:Nat):halfK r 4=halfN r:=by
 simp only[halfK_succ,halfN];rfl
theorem half_ok (r:Nat) (h:r<4294967296) (w:World) :
  Calls Tryz.prog 192 #[.int .u32 r] w fun e w'=>e=.returned (.int .u32 (halfN r))∧w=w':=by
 go_enter Tryz.func192,Tryz.ntmps192
 go_wp2
 go_loopw [3,7] (fun o k wr=>∃i:Nat,i≤4∧k=.int .i64 i∧o=.int .u32 (halfK r i)∧w=wr) (fun _ k _=>4-(intOf k).toNat)
 case atStart=>exact⟨0,by omega,rfl,by simp[halfK],rfl⟩
 case round =>
  obtain⟨i,hi,rfl,rfl,rfl⟩:=hrel
  have hlt:=halfK_lt h i
  have hc:i=0∨i=1∨i=2∨i=3∨i=4:=by omega
  rcases hc with rfl|rfl|rfl|rfl|rfl
  ·have hs:=halfK_succ r 0
   generalize halfK r 0=o at hlt hs ⊢
   have ha0:=and1_u32 (r) (by omega)
   have hx:=xor_u32 o 498536548 hlt (by decide)
   rcases Nat.mod_two_eq_zero_or_one (r) with hb|hb
   ·have hs':halfK r 1=o:=by rw[hs];unfold bitStep;rw[if_neg (by simp;omega)]
    have ha:bits .and .u32 (r:Int) 1=0:=by rw[hb]at ha0;simpa using ha0
    clear ha0
    clear hs hb hx
    go_wp2
    go_roundw
    case rel=>exact⟨1,by omega,rfl,by rw[hs'],by trivial⟩
    case measure=>simp[intOf]
   ·have hs':halfK r 1=o ^^^ 498536548:=by rw[hs];unfold bitStep;rw[if_pos (by simp;omega)]
    have ha:bits .and .u32 (r:Int) 1=1:=by rw[hb]at ha0;simpa using ha0
    clear ha0
    clear hs hb
    go_wp2
    go_roundw
    case rel=>exact⟨1,by omega,rfl,by rw[hs',←hx];rfl,by trivial⟩
    case measure=>simp[intOf]
  ·have hs:=halfK_succ r 1
   generalize halfK r 1=o at hlt hs ⊢
   have ha0:=and1_u32 (r / 2) (by omega)
   have hx:=xor_u32 o 997073096 hlt (by decide)
   rcases Nat.mod_two_eq_zero_or_one (r / 2) with hb|hb
   ·have hs':halfK r 2=o:=by rw[hs];unfold bitStep;rw[if_neg (by simp;omega)]
    have ha:bits .and .u32 ((r:Int) / 2) 1=0:=by rw[hb]at ha0;simpa using ha0
    clear ha0
    clear hs hb hx
    go_wp2
    go_roundw
    case rel=>exact⟨2,by omega,rfl,by rw[hs'],by trivial⟩
    case measure=>simp[intOf]
   ·have hs':halfK r 2=o ^^^ 997073096:=by rw[hs];unfold bitStep;rw[if_pos (by simp;omega)]
    have ha:bits .and .u32 ((r:Int) / 2) 1=1:=by rw[hb]at ha0;simpa using ha0
    clear ha0
    clear hs hb
    go_wp2
    go_roundw
    case rel=>exact⟨2,by omega,rfl,by rw[hs',←hx];rfl,by trivial⟩
    case measure=>simp[intOf]
  ·have hs:=halfK_succ r 2
   generalize halfK r 2=o at hlt hs ⊢
   have ha0:=and1_u32 (r / 4) (by omega)
   have hx:=xor_u32 o 1994146192 hlt (by decide)
   rcases Nat.mod_two_eq_zero_or_one (r / 4) with hb|hb
   ·have hs':halfK r 3=o:=by rw[hs];unfold bitStep;rw[if_neg (by simp;omega)]
    have ha:bits .and .u32 ((r:Int) / 4) 1=0:=by rw[hb]at ha0;simpa using ha0
    clear ha0
    clear hs hb hx
    go_wp2
    go_roundw
    case rel=>exact⟨3,by omega,rfl,by rw[hs'],by trivial⟩
    case measure=>simp[intOf]
   ·have hs':halfK r 3=o ^^^ 1994146192:=by rw[hs];unfold bitStep;rw[if_pos (by simp;omega)]
    have ha:bits .and .u32 ((r:Int) / 4) 1=1:=by rw[hb]at ha0;simpa using ha0
    clear ha0
    clear hs hb
    go_wp2
    go_roundw
    case rel=>exact⟨3,by omega,rfl,by rw[hs',←hx];rfl,by trivial⟩
    case measure=>simp[intOf]
  ·have hs:=halfK_succ r 3
   generalize halfK r 3=o at hlt hs ⊢
   have ha0:=and1_u32 (r / 8) (by omega)
   have hx:=xor_u32 o 3988292384 hlt (by decide)
   rcases Nat.mod_two_eq_zero_or_one (r / 8) with hb|hb
   ·have hs':halfK r 4=o:=by rw[hs];unfold bitStep;rw[if_neg (by simp;omega)]
    have ha:bits .and .u32 ((r:Int) / 8) 1=0:=by rw[hb]at ha0;simpa using ha0
    clear ha0
    clear hs hb hx
    go_wp2
    go_roundw
    case rel=>exact⟨4,by omega,rfl,by rw[hs'],by trivial⟩
    case measure=>simp[intOf]
   ·have hs':halfK r 4=o ^^^ 3988292384:=by rw[hs];unfold bitStep;rw[if_pos (by simp;omega)]
    have ha:bits .and .u32 ((r:Int) / 8) 1=1:=by rw[hb]at ha0;simpa using ha0
    clear ha0
    clear hs hb
    go_wp2
    go_roundw
    case rel=>exact⟨4,by omega,rfl,by rw[hs',←hx];rfl,by trivial⟩
    case measure=>simp[intOf]
  ·rw[halfK_four]
   go_wp2
   go_ret
   exact⟨rfl,rfl⟩
theorem Crc_ok {w:World}{v:Value}{l:List UInt8}(hv:Bs w v l) :
  Calls Tryz.prog 159 #[v] w fun e w'=>e=.returned (.int .u32 (crcN l))∧w=w':=by
 obtain⟨a,cap,rfl,h1,h2,hel⟩:=hv.elems
 have hmax:l.length≤9223372036854775807:=by unfold maxLen at h2;omega
 clear hv h1 h2
 have HE:=zH hel
 clear hel
 go_enter Tryz.func159,Tryz.ntmps159
 go_wp2
 go_loopw [3,8] (fun r k wr=>∃i:Nat,i≤l.length∧k=.int .i64 i∧r=.int .u32 (crcGo 4294967295 (l.take i))∧w=wr) (fun _ k _=>l.length-(intOf k).toNat)
 case atStart=>exact⟨0,by omega,rfl,rfl,rfl⟩
 case round =>
  obtain⟨i,hi,rfl,rfl,rfl⟩:=hrel
  have hr:=crcGo_lt (l.take i) 4294967295 (by decide)
  by_cases hlt:i<l.length
  ·obtain⟨g,o,rfl,hg,hcell⟩:=HE.out i hlt
   have hn:crcGo 4294967295 (l.take (i+1))=halfN (halfN (crcGo 4294967295 (l.take i) ^^^ l[i].toNat)):=by
    unfold crcGo
    rw[List.take_succ_eq_append_getElem hlt,List.foldl_append];rfl
   have HN:=zH hn
   clear hn
   have hc8:l[i].toNat<256:=l[i].toNat_lt
   have hx:=xor_u32 (crcGo 4294967295 (l.take i)) l[i].toNat hr (by omega)
   have hxl:crcGo 4294967295 (l.take i) ^^^ l[i].toNat<4294967296:=Nat.xor_lt_two_pow (n:=32) hr (by omega)
   have hcell':w.cell? ⟨g,o+i,none⟩=some (.int .u8 (l[i].toNat:Int)):=hcell
   have hid:((l[i].toNat:Nat):Int) % 4294967296=(l[i].toNat:Int):=by omega
   generalize crcGo 4294967295 (l.take i) ^^^ l[i].toNat=x at hx hxl HN
   generalize crcGo 4294967295 (l.take i)=r at hx hr ⊢
   generalize l[i].toNat=c at hx hcell' hid hc8
   clear hcell
   go_wp2_with fail
   refine (half_ok x hxl w).mono ?_
   rintro e w1 ⟨rfl,rfl⟩
   go_wp2_with fail
   refine (half_ok (halfN x) (halfN_lt hxl) w).mono ?_
   rintro e w1 ⟨rfl,rfl⟩
   go_wp2
   go_roundw
   case rel=>exact⟨i+1,by omega,by go_num,by rw[HN.out],by trivial⟩
   case measure=>simp[intOf];omega
  ·obtain rfl:i=l.length:=by omega
   rw[List.take_length]at hr ⊢
   have e:(4294967295:Int)-(crcGo 4294967295 l:Int)=(crcN l:Int):=by unfold crcN;omega
   go_wp2
   go_ret
   exact⟨rfl,rfl⟩
theorem Concat_ok {w:World}{v a b:Value}{l k:List UInt8}(hs:SrcV 1 w v 2 [a,b]) (ha:Bs w a l) (hb:Bs w b k) (hl:l.length+k.length≤100000000) :
  Calls Tryz.prog 160 #[v] w (NewB w (l++k)):=by
 obtain⟨-,⟨_,_,h0⟩|⟨g,o,cap,rfl,h1,h2,h3,h4⟩⟩:=hs
 ·omega
 have c0:=h4 0 (by simp)
 have c1:=h4 1 (by simp)
 simp only[List.getElem_cons_zero,List.getElem_cons_succ,Nat.add_zero]at c0 c1
 obtain⟨xa,ca,rfl,hla⟩:=ha.len
 obtain⟨xb,cb,rfl,hlb⟩:=hb.len
 obtain⟨i0,hi,hz0,hz1,hz2⟩:=info_parts infoU8
 have HI:=zH hi
 have HZ0:=zH hz0
 have HZ1:=zH hz1
 have HZ2:=zH hz2
 have HA:=zH ha
 have HB:=zH hb
 clear hi hz0 hz1 hz2 ha hb h4 h1 h2 hla hlb
 go_enter Tryz.func160,Tryz.ntmps160
 go_wp2
 go_loopw [3,11] (fun s i wr=>((i=.int .i64 0∧s=.int .i64 0)∨(i=.int .i64 1∧s=.int .i64 l.length)∨(i=.int .i64 2∧s=.int .i64 ((l.length+k.length:Nat):Int)))∧w=wr) (fun _ i _=>2-(intOf i).toNat)
 case atStart=>exact⟨.inl ⟨rfl,rfl⟩,rfl⟩
 case round =>
  obtain⟨⟨rfl,rfl⟩|⟨rfl,rfl⟩|⟨rfl,rfl⟩,rfl⟩:=hrel
  ·clear c1
   go_wp2
   go_roundw
   case rel=>exact⟨.inr (.inl ⟨rfl,by simp⟩),by trivial⟩
   case measure=>simp[intOf]
  ·clear c0
   go_wp2
   go_roundw
   case rel=>exact⟨.inr (.inr ⟨rfl,by simp⟩),by trivial⟩
   case measure=>simp[intOf]
  ·go_wp2_with fail
   refine (Grow_ok w (l.length+k.length) (by omega)).mono ?_
   rintro e w1 ⟨v1,rfl,hv1,hn1,hf1⟩
   have G1:=zH (And.intro hv1 (And.intro hn1 hf1))
   clear hv1 hn1 hf1
   go_wp2
   go_loopw [6,27] (fun s i wr=>∃m:List UInt8,((i=.int .i64 0∧m=[])∨(i=.int .i64 1∧m=l)∨(i=.int .i64 2∧m=l++k))∧Vec 1 wr s m.length (m.map u8)∧Nw w wr∧∀g,s.ownBlock=some g→w.heap.size≤g) (fun _ i _=>2-(intOf i).toNat)
   case atStart=>exact⟨[],.inl ⟨rfl,rfl⟩,G1.out.1,G1.out.2.1,G1.out.2.2⟩
   case round =>
    obtain⟨m,hc,hv,hn,hf⟩:=hrel
    obtain⟨sm,cm,rfl,-⟩:=hv.len
    have e0:=hn.cell c0
    have e1:=hn.cell c1
    have hg:g<wr.heap.size:=Nat.lt_of_lt_of_le h3 hn.size
    have HV:=zH hv
    have HN:=zH hn
    have HF:=zH hf
    clear hv hn hf
    have SA:=zH (SrcV.of_rd (HA.out.nw HN.out))
    have SB:=zH (SrcV.of_rd (HB.out.nw HN.out))
    rcases hc with ⟨rfl,rfl⟩|⟨rfl,rfl⟩|⟨rfl,rfl⟩
    ·clear e1
     go_wp2_with (at_builtin;refine wpList_append_vec rfl _ _ 79 rfl 5 i0 (.int .u8 0) 1 1 Tryz.underlying79 HI.out HZ0.out HZ1.out HZ2.out rfl (by decide) rfl rfl HV.out SA.out ?c1 ?c2 ?c3 ?_)
     case c1=>exact fun u hu=>by obtain⟨y,_,rfl⟩:=List.mem_map.1 hu;exact u8_cell y
     case c2=>simp only[List.length_nil];unfold maxLen;omega
     case c3=>simp only[List.length_nil];omega
     intro v' w2 q1 q2 q3
     have Q1:=zH q1
     have Q2:=zH q2
     have Q3:=zH q3
     clear q1 q2 q3
     go_wp2
     go_roundw
     case rel =>
      refine⟨l,.inr (.inl ⟨rfl,rfl⟩),by simpa using Q1.out,HN.out.trans' Q2.out (fun j hj hb=>by have:=HF.out j hb;omega),fun j hj=>?_⟩
      rcases Q3.out with h|h
      ·exact HF.out j (h▸hj)
      ·exact Nat.le_trans HN.out.size (h j hj)
     case measure=>simp[intOf]
    ·clear e0
     go_wp2_with (at_builtin;refine wpList_append_vec rfl _ _ 79 rfl 5 i0 (.int .u8 0) 1 1 Tryz.underlying79 HI.out HZ0.out HZ1.out HZ2.out rfl (by decide) rfl rfl HV.out SB.out ?c1 ?c2 ?c3 ?_)
     case c1=>exact fun u hu=>by obtain⟨y,_,rfl⟩:=List.mem_map.1 hu;exact u8_cell y
     case c2=>unfold maxLen;omega
     case c3=>omega
     intro v' w2 q1 q2 q3
     have Q1:=zH q1
     have Q2:=zH q2
     have Q3:=zH q3
     clear q1 q2 q3
     go_wp2
     go_roundw
     case rel =>
      refine⟨m++k,.inr (.inr ⟨rfl,rfl⟩),by have:=Q1.out;rwa [←List.map_append,←List.length_append]at this,HN.out.trans' Q2.out (fun j hj hb=>by have:=HF.out j hb;omega),fun j hj=>?_⟩
      rcases Q3.out with h|h
      ·exact HF.out j (h▸hj)
      ·exact Nat.le_trans HN.out.size (h j hj)
     case measure=>simp[intOf]
    ·go_wp2
     go_ret
     exact⟨_,rfl,HV.out,HN.out,HF.out⟩
theorem Int_ok {w:World}{v:Value}{l:List UInt8}(hv:Vec 1 w v l.length (l.map u8)) (n:Int) (h0 : -9223372036854775808≤n) (h1:n≤9223372036854775807) (hl:l.length≤100000000) :
  Calls Tryz.prog 158 #[v,.int .i64 n] w fun e w'=>∃v',e=.returned v'∧Vec 1 w' v' (l++intB n).length ((l++intB n).map u8)∧Only (fun k=>v.ownBlock=some k) w w'∧(v'.ownBlock=v.ownBlock∨∀g,v'.ownBlock=some g→w.heap.size≤g):=by
 have HV:=zH hv
 obtain⟨sa,sc,rfl,-⟩:=hv.len
 clear hv
 go_enter Tryz.func158,Tryz.ntmps158
 go_wp2_with fail
 refine (folded_ok n h0 h1 w).mono ?_
 rintro e w1 ⟨rfl,rfl⟩
 go_wp2_with fail
 refine (Uint_ok HV.out (zig n) (zig_lt h0 h1) hl).mono ?_
 rintro e w1 ⟨v',rfl,q1,q2,q3⟩
 have Q:=zH (And.intro q1 (And.intro q2 q3))
 clear q1 q2 q3
 go_wp2
 go_ret
 exact⟨v',rfl,Q.out⟩
theorem beq_of_take {l k:List Str}(h:l=k):(l==k)=true:=by simpa using h
theorem nbeq_at {l k:List Str}(i:Nat) (h:l[i]?≠k[i]?):(l==k)=false:=by
 rw[Bool.eq_false_iff];intro e;have:l=k:=by simpa using e
 exact h (by rw[this])
theorem SameTexts_ok {w:World}{v u:Value}{l k:List Str}(h:Ss w v l) (h':Ss w u k) :
  Calls Tryz.prog 42 #[v,u] w fun e w'=>e=.returned (.bool (l==k))∧Nw w w':=by
 obtain⟨la,lc,rfl,hl1,hl2,hle⟩:=h.elems
 obtain⟨ka,kc,rfl,hk1,hk2,hke⟩:=h'.elems
 unfold maxLen at hl2 hk2
 have HL:=zH hle
 have HK:=zH hke
 clear h h' hle hke
 go_enter Tryz.func42,Tryz.ntmps42
 go_wp2
 go_loopw [5] (fun i wr=>∃n:Nat,n≤l.length∧n≤k.length∧i=.int .i64 n∧l.take n=k.take n∧Nw w wr) (fun i _=>l.length+k.length-(intOf i).toNat)
 case atStart=>exact⟨0,Nat.zero_le _,Nat.zero_le _,rfl,rfl,Nw.refl _⟩
 case round =>
  obtain⟨n,hn1,hn2,rfl,ht,hwr⟩:=hrel
  have HT:=zH ht
  have HW:=zH hwr
  clear ht
  by_cases h1:n<l.length
  ·obtain⟨g,o,rfl,hg,hc⟩:=HL.out n h1
   have hc1:=hwr.cell hc
   by_cases h2:n<k.length
   ·obtain⟨g2,o2,rfl,hg2,hd⟩:=HK.out n h2
    have hd1:=hwr.cell hd
    by_cases he:l[n]=k[n]
    ·have he':Hid (l.take (n+1)=k.take (n+1)):=by
      show l.take (n+1)=k.take (n+1)
      rw[List.take_succ_eq_append_getElem h1,List.take_succ_eq_append_getElem h2,HT.out,he]
     have q1:decide ((l.length:Int)≤(n:Int))=false:=by simp;omega
     have q2:decide ((k.length:Int)≤(n:Int))=false:=by simp;omega
     rw[he]at hc1
     clear hc hd hwr he
     go_wp2
     have d1:=cellG hc1
     have d2:=cellG hd1
     refine wp_region_quiet_below (by kernel_rfl) (by kernel_rfl) ?_
     repeat (first|go_big_quiet_step (fail)|quiet_step (fail))
     refine wpQuiet_nil ?_
     intro w2 hw2
     have hw2:=zH (Nw.of_regrown hw2)
     clear d1 d2 q1 q2 hc1 hd1
     go_wp2
     go_roundw
     case rel=>exact⟨n+1,by omega,by omega,by go_num,he'.out,HW.out.trans hw2.out⟩
     case measure=>simp[intOf];omega
    ·have r:Hid ((l==k)=false):=nbeq_at n (by rw[List.getElem?_eq_getElem h1,List.getElem?_eq_getElem h2];intro e;exact he (Option.some.inj e))
     have q1:decide ((l.length:Int)≤(n:Int))=false:=by simp;omega
     have q2:decide ((k.length:Int)≤(n:Int))=false:=by simp;omega
     have q3:(l[n]==k[n])=false:=by simpa using he
     have q4:(l[n]!=k[n])=true:=by simpa using he
     generalize l[n]=ln at *
     generalize k[n]=kn at *
     clear hc hd hwr
     go_wp2
     have d1:=cellG hc1
     have d2:=cellG hd1
     refine wp_region_quiet_below (by kernel_rfl) (by kernel_rfl) ?_
     repeat (first|go_big_quiet_step (fail)|quiet_step (fail))
     refine wpQuiet_nil ?_
     intro w2 hw2
     have hw2:=zH (Nw.of_regrown hw2)
     clear d1 d2 q1 q2 hc1 hd1
     go_wp2
     go_ret
     exact⟨by rw[r.out];rfl,HW.out.trans hw2.out⟩
   ·have r:Hid ((l==k)=false):=nbeq_at n (by rw[List.getElem?_eq_getElem h1,List.getElem?_eq_none (by omega)];simp)
    have q1:decide ((l.length:Int)≤(n:Int))=false:=by simp;omega
    have q2:decide ((k.length:Int)≤(n:Int))=true:=by simp;omega
    clear hc hwr hc1
    go_wp2
    refine wp_region_quiet_below (by kernel_rfl) (by kernel_rfl) ?_
    repeat (first|go_big_quiet_step (fail)|quiet_step (fail))
    refine wpQuiet_nil ?_
    intro w2 hw2
    have hw2:=zH (Nw.of_regrown hw2)
    clear q1 q2
    go_wp2
    go_ret
    exact⟨by rw[r.out];rfl,HW.out.trans hw2.out⟩
  ·by_cases h2:n<k.length
   ·have r:Hid ((l==k)=false):=nbeq_at n (by rw[List.getElem?_eq_none (by omega),List.getElem?_eq_getElem h2];simp)
    have q1:decide ((l.length:Int)≤(n:Int))=true:=by simp;omega
    clear hwr
    go_wp2
    refine wp_region_quiet_below (by kernel_rfl) (by kernel_rfl) ?_
    repeat (first|go_big_quiet_step (fail)|quiet_step (fail))
    refine wpQuiet_nil ?_
    intro w2 hw2
    have hw2:=zH (Nw.of_regrown hw2)
    clear q1
    go_wp2
    go_ret
    exact⟨by rw[r.out];rfl,HW.out.trans hw2.out⟩
   ·have r:Hid ((l==k)=true):=beq_of_take (by
     have:=HT.out
     rw[List.take_of_length_le (by omega),List.take_of_length_le (by omega)]at this
     exact this)
    clear hwr
    go_wp2
    go_ret
    exact⟨by rw[r.out];rfl,HW.out⟩
set_option maxHeartbeats 800000
def Has (w0 w:World) (b:Nat) (d:Dsk):Prop:=∃S,DiskIn w b d S∧Nw w0 w∧∀k,S k→w0.heap.size≤k
section
variable {w0 w w':World}{b:Nat}{d d':Dsk}
theorem Has.base (h:Has w0 w b d):Nw w0 w:=h.choose_spec.2.1
theorem Has.ok (h:Has w0 w b d):d.Ok:=h.choose_spec.1.ok
theorem Has.new (most:Int) (w:World) (h0:0≤most) (h1:most≤16777216):Calls Tryz.prog 22 #[.int .i64 most] w fun e w'=>∃b,e=.returned (.tuple #[.pointer (some ⟨b,0,none⟩),.int .i64 0])∧Has w w' b (newDsk most):=by
 refine (New_ok most w h0 h1).mono ?_
 rintro e w' ⟨b,S,he,h2,h3,h4⟩
 exact⟨b,he,S,h2,h3,h4⟩
end
theorem rd_lit {α:Type}{f:α→Value}(w:World) (t:TypeId) (fz:Nat×Nat) (l:List α) (C:Array Value) (c:Nat) (hC:C=(l.map f).toArray) (hc:l.length≤c) (hm:c≤maxLen) :
  Rd f (w.alloc (.cells C t fz)) (.slice (some ⟨w.heap.size,0,none⟩) l.length c) l:=by
 refine .inr ⟨w.heap.size,0,c,rfl,hc,hm,by simp,fun i hi=>?_⟩
 have:(w.alloc (.cells C t fz)).heap[w.heap.size]? = some (.cells C t fz):=heap_alloc_new w _
 subst hC
 unfold World.cell?
 rw[show (⟨w.heap.size,0+i,none⟩:Addr).block=w.heap.size from rfl,this]
 simp[hi]
end Go.Proofs.YtkbenkldfehhlaaGreatDoor
