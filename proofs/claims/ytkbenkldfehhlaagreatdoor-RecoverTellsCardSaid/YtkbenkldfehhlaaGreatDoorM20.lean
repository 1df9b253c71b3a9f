/-
  Texts merged by a program of this claim's: Opens, WorldN, Frames, LogUse, RgnH, Tab.
-/
import Derived.Test.YtkbenkldfehhlaaGreatDoorM19
import Derived.Deep.Fields
import Derived.ChangeSame
import Derived.Test.YtkbenkldfehhlaaGreatDoorM11
import Derived.Test.YtkbenkldfehhlaaGreatDoorCards
import Derived.Test.YtkbenkldfehhlaaGreatDoorTie
import Derived.WalkKit
import Derived.ProofKit
import Derived.OpenShut
import Derived.Deep.DeepHandedRow
import Derived.Deep.DeepWitnessRowRef
import Derived.Lib.LaidTab
import Derived.LaidSub
import Derived.Test.YtkbenkldfehhlaaGreatDoorM10
import Derived.Test.YtkbenkldfehhlaaGreatDoorM9
import Derived.Test.YtkbenkldfehhlaaGreatDoorM18
namespace Go.Proofs.YtkbenkldfehhlaaGreatDoor
open Go Go.ChangeShapes Go.Deep Go.RowKit Go.WideShapes
def RdK {α:Type}(k:Nat) (R:List Value→α→Prop) (w:World) (v:Value) (l:List α):Prop:=
 (∃a,v=.slice a 0 0∧l=[])∨∃g o cap,v=.slice (some ⟨g,o,none⟩) l.length cap∧l.length≤cap∧cap≤maxLen∧g<w.heap.size ∧
  ∀i (h:i<l.length),∃cs:List Value,cs.length=k∧(∀j (hj:j<cs.length),w.cell? ⟨g,o+i*k+j,none⟩=some cs[j])∧R cs l[i]
theorem RdK.len {α:Type}{k:Nat}{R:List Value→α→Prop}{w:World}{v:Value}{l:List α}(h:RdK k R w v l):∃a cap,v=.slice a l.length cap∧l.length≤cap∧cap≤maxLen ∧
  ∀i (h:i<l.length),∃g o,a=some ⟨g,o,none⟩∧g<w.heap.size∧∃cs:List Value,cs.length=k∧(∀j (hj:j<cs.length),w.cell? ⟨g,o+i*k+j,none⟩=some cs[j])∧R cs l[i]:=by
 rcases h with ⟨a,rfl,rfl⟩|⟨g,o,cap,rfl,h1,h2,hg,h3⟩
 ·exact⟨_,_,rfl,by simp,by simp,fun i hi=>absurd hi (by simp)⟩
 ·exact⟨_,_,rfl,h1,h2,fun i hi=>⟨g,o,rfl,hg,h3 i hi⟩⟩
theorem RdK.rd {α:Type}{f:α→Value}{R:List Value→α→Prop}{w:World}{v:Value}{l:List α}(h:RdK 1 R w v l) (hR:∀cs x,R cs x→cs=[f x]):Rd f w v l:=by
 rcases h with h|⟨g,o,cap,rfl,h1,h2,hg,h3⟩
 ·exact .inl h
 ·refine .inr ⟨g,o,cap,rfl,h1,h2,hg,fun i hi=>?_⟩
  obtain⟨cs,hk,hc,hr⟩:=h3 i hi
  obtain rfl:=hR _ _ hr
  simpa using hc 0 (by simp)
theorem list_of {α:Type}{p:Nat→α→Prop}:∀n:Nat,(∀i,i<n→∃x,p i x)→∃l:List α,l.length=n∧∀i (h:i<l.length),p i l[i]
 |0,_=>⟨[],rfl,fun i h=>absurd h (by simp)⟩
 |n+1,h=>by
  obtain⟨l,hl,hp⟩:=list_of n (fun i hi=>h i (Nat.lt_succ_of_lt hi))
  obtain⟨x,hx⟩:=h n (Nat.lt_succ_self n)
  refine⟨l++[x],by simp[hl],fun i hi=>?_⟩
  by_cases hlt:i<l.length
  ·rw[List.getElem_append_left hlt];exact hp i hlt
  ·have:i=n:=by simp[hl]at hi hlt;omega
   subst this
   rw[List.getElem_append_right (by omega)]
   simpa using hx
theorem spot_of_cell {w:World}{a:Addr}{v:Value}(h:w.cell? a=some v):a.spot=none:=by
 unfold World.cell? at h
 split at h
 ·split at h
  ·cases h
  ·rename_i hs;simpa using hs
 ·cases h
theorem addp (g o n:Nat):(⟨g,o,none⟩:Addr).add n=⟨g,o+n,none⟩:=by
 unfold Addr.add
 split
 ·rename_i h;subst h;rfl
 ·rfl
section
variable {H:Type}{enc:TypeId×Value→H}{P:Program}{W:World}
def Opener {α:Type}(enc:TypeId×Value→H) (P:Program) (W:World) (t:TypeId) (R:List Value→α→Prop):Prop:=
 ∀(fuel:Nat) (cs:List Value) (x:DataW H×List MemPlace),DataW.trod enc P W 0 (fun _=>true) true fuel t cs=some x→∃y,R cs y
theorem Opener.slice {α:Type}{R:List Value→α→Prop}{t e:TypeId}{k:Nat}(ht:P.underlying t=some (.slice e)) (hc:P.cellsOf e=k) (hk:0<k) (h:Opener enc P W e R) :
  Opener enc P W t (fun cs (l:List α)=>∃v,cs=[v]∧RdK k R W v l):=by
 intro fuel cs x hx
 subst hc
 rcases open_slice ht hx with ⟨rfl,rfl⟩|⟨a,len,cap,m,n,D,Pl,rfl,hb,hl,hm,hmm,rfl,hel⟩
 ·exact⟨[],_,rfl,.inl ⟨none,rfl,rfl⟩⟩
 ·simp only[if_true]at hmm
  subst hmm
  by_cases h0:m=0
  ·subst h0
   obtain rfl:len=0:=by omega
   exact⟨[],_,rfl,.inl ⟨some a,rfl,rfl⟩⟩
  ·obtain⟨g,o,sp⟩:=a
   obtain⟨c0,hc0,-⟩:=hel 0 (by omega)
   obtain⟨-,hl0,hat0⟩:=World.cells?_some hc0
   have h00:=hat0 0 hk
   rw[List.getElem?_eq_getElem (by omega)]at h00
   rw[Nat.zero_mul]at h00
   have hsp:sp=none:=spot_of_cell h00
   subst hsp
   have hg:g<W.heap.size:=World.block_lt_of_cell? _ _ h00
   obtain⟨l,hll,hp⟩:=list_of (p:=fun i (y:α)=>∃cs:List Value,cs.length=P.cellsOf e∧(∀j (hj:j<cs.length),W.cell? ⟨g,o+i*P.cellsOf e+j,none⟩=some cs[j])∧R cs y) len (fun i hi=>by
    obtain⟨cs',hcs,htr⟩:=hel i (by omega)
    obtain⟨y,hy⟩:=h _ _ _ htr
    obtain⟨-,hl',hat⟩:=World.cells?_some hcs
    refine⟨y,cs',hl',fun j hj=>?_,hy⟩
    have:=hat j (by omega)
    rw[List.getElem?_eq_getElem hj,addp,addp]at this
    exact this)
   subst hll
   exact⟨l,_,rfl,.inr ⟨g,o,m,rfl,hl,hm,hg,hp⟩⟩
theorem Opener.imp {α β:Type}{R:List Value→α→Prop}{R':List Value→β→Prop}{t:TypeId}(h:Opener enc P W t R) (hi:∀cs x,R cs x→∃y,R' cs y):Opener enc P W t R':=by
 intro fuel cs x hx
 obtain⟨y,hy⟩:=h _ _ _ hx
 exact hi _ _ hy
theorem Opener.int {t:TypeId}{k:IntKind}(ht:P.underlying t=some (.int k)):Opener enc P W t (fun cs (z:Int)=>cs=[.int k z]∧(Lit.int k z).wf=true):=by
 intro fuel cs x hx
 obtain⟨z,rfl,-,hw⟩:=DataW.trod_int ht hx
 exact⟨z,rfl,hw⟩
def isU8 (cs:List Value) (c:UInt8):Prop:=cs=[u8 c]
def isI64 (cs:List Value) (z:Int):Prop:=cs=[.int .i64 z]∧-9223372036854775808≤z∧z≤9223372036854775807
def isStr (cs:List Value) (s:Str):Prop:=cs=[.string ⟨s.toArray⟩]∧s.length≤9223372036854775807
def isBs (W:World) (cs:List Value) (l:List UInt8):Prop:=∃v,cs=[v]∧Bs W v l
theorem Opener.u8 {t:TypeId}(ht:P.underlying t=some (.int .u8)):Opener enc P W t isU8:=
 (Opener.int ht).imp fun cs z ⟨h,hw⟩=>⟨UInt8.ofNat z.toNat,by rw[isU8,h,Go.Proofs.YtkbenkldfehhlaaGreatDoor.u8,←u8_of_int hw]⟩
theorem Opener.i64 {t:TypeId}(ht:P.underlying t=some (.int .i64)):Opener enc P W t isI64:=
 (Opener.int ht).imp fun cs z ⟨h,hw⟩=>⟨z,h,by
  simp only[Lit.wf,Bool.and_eq_true,decide_eq_true_eq]at hw
  have h1:=hw.1
  have h2:=hw.2
  rw[show IntKind.i64.min = -9223372036854775808 from rfl]at h1
  rw[show IntKind.i64.max=9223372036854775807 from rfl]at h2
  exact⟨h1,h2⟩⟩
theorem Opener.str {t:TypeId}(ht:P.underlying t=some .string):Opener enc P W t isStr:=by
 intro fuel cs x hx
 obtain⟨s,rfl,-,hs⟩:=DataW.trod_string ht hx
 refine⟨s.data.toList,?_,?_⟩
 ·simp
 ·unfold maxLen at hs
  simpa using hs
theorem Opener.bytes {t e:TypeId}(ht:P.underlying t=some (.slice e)) (he:P.underlying e=some (.int .u8)) (hc:P.cellsOf e=1):Opener enc P W t (isBs W):=
 (Opener.slice ht hc (by omega) (Opener.u8 he)).imp fun _ _ ⟨v,hv,h⟩=>⟨_,v,hv,h.rd fun _ _ h=>h⟩
theorem open_arg {α:Type}{R:List Value→α→Prop}{t:TypeId}{v:Value}{d:DataW H}{ps:List MemPlace}(ho:Opener enc P W t R) (h:DataW.Trod enc P W 0 (fun _=>true) true t v d ps):∃y,R v.cells.toList y:=by
 obtain⟨fuel,hf⟩:=h
 exact ho _ _ _ hf
theorem one_of_slice {r:Reach}{b0:Nat}{t e:TypeId}{v u:Value}(ht:P.underlying t=some (.slice e)) (hval:Value.okWide P W r b0 t v) (h:v.cells.toList=[u]):u=v:=by
 have hv:∀xs,v≠.agg xs:=fun xs hx=>by subst hx;simp[Value.okWide,ht,Cell.okWide,Cell.ok]at hval
 cases v <;> simp_all [Value.cells]
theorem one_of_int {r:Reach}{b0:Nat}{t:TypeId}{k:IntKind}{v u:Value}(ht:P.underlying t=some (.int k)) (hval:Value.okWide P W r b0 t v) (h:v.cells.toList=[u]):u=v:=by
 have hv:∀xs,v≠.agg xs:=fun xs hx=>by subst hx;simp[Value.okWide,ht,Cell.okWide,Cell.ok]at hval
 cases v <;> simp_all [Value.cells]
theorem arg_slice {α:Type}{R:List Value→α→Prop}{r:Reach}{b0:Nat}{t e:TypeId}{k:Nat}{v:Value}{d:DataW H}{ps:List MemPlace}(ht:P.underlying t=some (.slice e)) (hc:P.cellsOf e=k) (hk:0<k) (ho:Opener enc P W e R)
  (hval:Value.okWide P W r b0 t v) (h:DataW.Trod enc P W 0 (fun _=>true) true t v d ps):∃l,RdK k R W v l:=by
 obtain⟨l,u,hu,hr⟩:=open_arg (Opener.slice ht hc hk ho) h
 obtain rfl:=one_of_slice ht hval hu
 exact⟨l,hr⟩
theorem arg_i64 {r:Reach}{b0:Nat}{t:TypeId}{v:Value}{d:DataW H}{ps:List MemPlace}(ht:P.underlying t=some (.int .i64))
  (hval:Value.okWide P W r b0 t v) (h:DataW.Trod enc P W 0 (fun _=>true) true t v d ps):∃z:Int,v=.int .i64 z∧-9223372036854775808≤z∧z≤9223372036854775807:=by
 obtain⟨z,hs,hl⟩:=open_arg (Opener.i64 ht) h
 exact⟨z,(one_of_int ht hval hs).symm,hl⟩
theorem Opener.struct2 {α0 α1:Type}{R0:List Value→α0→Prop}{R1:List Value→α1→Prop}{t:TypeId}{f0 f1:Field}(hs:P.underlying t=some (.struct #[f0,f1])) (hone:oneCellFields P #[f0,f1]=true) (hC:P.cellsOf t=2) (h0:Opener enc P W f0.type R0) (h1:Opener enc P W f1.type R1) :
  Opener enc P W t (fun cs (x:α0×α1)=>∃v0 v1,cs=[v0,v1]∧R0 [v0] x.1∧R1 [v1] x.2):=by
 intro fuel cs x hx
 obtain⟨xs,n,_,_,hcl,hlen,hg⟩:=DataW.trod_struct hs hx
 rw[hC]at hcl
 obtain⟨o0,k0⟩:=hone_of hone 0 f0 rfl
 obtain⟨o1,k1⟩:=hone_of hone 1 f1 rfl
 match cs,hcl with
 |[c0,c1],_ =>
  match xs,hlen with
  |[y0,y1],_ =>
   have g0:=hg 0 f0 rfl
   rw[o0,k0]at g0
   obtain⟨z0,e0⟩:=h0 n [c0] y0 (by simpa using g0)
   have g1:=hg 1 f1 rfl
   rw[o1,k1]at g1
   obtain⟨z1,e1⟩:=h1 n [c1] y1 (by simpa using g1)
   exact⟨(z0,z1),c0,c1,rfl,e0,e1⟩
end
open Go.ChangeAt
set_option maxRecDepth 100000
theorem own:ownKnob Tryz.prog.godebug=none:=by kernel_rfl
theorem laidOut:laidOutB Tryz.prog=true:=by kernel_rfl
def layIn (cs:Array Value):Obj→Obj
 | .cells _ t frozen=>.cells cs t frozen
 |o=>o
def lit1:DataW Unit→List Value
 | .lit (.int k z)=>[.int k z]
 |_=>[]
def lit2:DataW Unit→List Value
 | .agg l=>l.flatMap lit1
 |d=>lit1 d
def lit3:DataW Unit→List Value
 | .agg l=>l.flatMap lit2
 |d=>lit2 d
noncomputable def laidHeap (h:Array Obj):Array Obj:=
 ((((h.modify 1 (layIn (lit3 Rows.laid_unicode_utf8_first).toArray)).modify 2 (layIn (lit3 Rows.laid_unicode_utf8_acceptRanges).toArray)).modify 0 (layIn (lit3 Rows.laid_internal_strconv_uint64pow10).toArray)).modify 4 (layIn (lit3 Rows.laid_math_bits_deBruijn32tab).toArray)).modify 5 (layIn (lit3 Rows.laid_math_bits_deBruijn64tab).toArray)
noncomputable def laidWorld (os:Os):World:=
 { World.holding Tryz.prog os ⟨#[],#[],[]⟩ with heap:=laidHeap (World.holding Tryz.prog os ⟨#[],#[],[]⟩).heap }
theorem pow_at : Tryz.prog.globalNamed "internal/strconv.uint64pow10" = some 0 := by kernel_rfl
theorem tab_of_laid {L:List (String×DataW Unit)}{W:World}(h:laidMetH Tryz.prog L W)
  (hL : (L.filter fun x => ["internal/strconv.uint64pow10"].contains x.1) = [("internal/strconv.uint64pow10", Lib.tabData .u64 Lib.pow10Tab)]) : Tab W := by
 have h1 := h.filter (fun x => ["internal/strconv.uint64pow10"].contains x.1)
 rw[hL]at h1
 have h2:=(laidMetH_iff.1 h1).1
 rw [show ([("internal/strconv.uint64pow10", (Lib.tabData .u64 Lib.pow10Tab : DataW Unit))].filter fun x => x.2.handleName?.isNone) = [("internal/strconv.uint64pow10", Lib.tabData .u64 Lib.pow10Tab)] by kernel_rfl] at h2
 exact Lib.tabIs_of_head (t:=245) (e:=144) (n:=20) pow_at (by kernel_rfl) (by kernel_rfl) (by kernel_rfl) (by kernel_rfl) (by kernel_rfl) h2
section
variable {H:Type}{enc:TypeId×Value→H}{P:Program}{W:World}
end
section
variable {H:Type}{enc:TypeId×Value→H}{W:World}
end
end Go.Proofs.YtkbenkldfehhlaaGreatDoor
namespace Go.Proofs.YtkbenkldfehhlaaGreatDoor
open Go Go.RowKit Go.Sort
set_option maxRecDepth 100000
section
variable {X Y:Nat→Prop}{w0 w w':World}{p b:Nat}{d d':Dsk}{L:Lg}
theorem pcs_at {l:List Pc}{a:Option Addr}{n cap:Nat}(h:Pcs w (.slice a n cap) l) (hn:l.length=n){k:Nat}(hk:k<n) :
  ∃g o,a=some ⟨g,o,none⟩∧g<w.heap.size∧w.cell? ⟨g,o+k*4,none⟩=some (.string ⟨(l[k]'(by omega)).name.toArray⟩)∧w.cell? ⟨g,o+k*4+1,none⟩=some (.int .i64 (l[k]'(by omega)).first) ∧
   w.cell? ⟨g,o+k*4+2,none⟩=some (.int .i64 (l[k]'(by omega)).count)∧w.cell? ⟨g,o+k*4+3,none⟩=some (.bool (l[k]'(by omega)).dense):=by
 obtain⟨a',cap',hv,-,-,hel⟩:=h.elem
 injection hv with e1 e2 e3
 subst e1
 exact hel k (by omega)
theorem HasL.grow {Z Y:Nat→Prop}(h:HasL X w0 w p b d L) (ho:Only Z w w') (hz:∀k,Z k→k<w.heap.size→X k∧w0.heap.size≤k) (hy:∀k,Y k→X k∨w.heap.size≤k∧k<w'.heap.size):HasL Y w0 w' p b d L:=by
 obtain⟨g,o,cap,h⟩:=h
 have hpl:=lt_of_block h.mem.blk
 have hgl:=h.mem.last.2.2.2.2.1
 refine⟨g,o,cap,h.mem.kept (Y:=fun k=>k=p∨k=g) ⟨ho.size,fun j hj hl=>ho.block j hl fun e=>?_⟩ (.inl rfl) (.inr rfl),h.disk.put ho (fun k hk hl=>⟨.inl (hz k hk hl).1,(hz k hk hl).2⟩) (fun k hk=>?_),h.p0,fun hc=>?_,h.g0,h.g1.1,fun hc=>?_⟩
 ·rcases hj with rfl|rfl
  ·exact h.p1 (hz _ e hl).1
  ·exact h.g1.2 (hz _ e hl).1
 ·rcases hk with hk|hk
  ·exact (hy k hk).imp .inl id
  ·exact .inl (.inr hk)
 ·rcases hy p hc with e|e
  ·exact h.p1 e
  ·omega
 ·rcases hy g hc with e|e
  ·exact h.g1.2 e
  ·omega
theorem Vec.kept {k:Nat}{v:Value}{n:Nat}{cs:List Value}(h:Vec k w v n cs) (hk:Kept Y w w') (hx:∀g,v.ownBlock=some g→Y g):Vec k w' v n cs:=
 h.keep hk.1 fun g hg=>hk.2 g (hx g hg) (h.lt g hg)
end
theorem forall_nil {p:Nat×Value→Prop}:∀x∈([]:List (Nat×Value)),p x:=fun _ h=>by cases h
theorem forall_cons {p:Nat×Value→Prop}{a:Nat×Value}{l:List (Nat×Value)}(h:p a) (h':∀x∈l,p x):∀x∈a::l,p x:=fun x hx=>by
 rcases List.mem_cons.1 hx with rfl|hx
 ·exact h
 ·exact h' x hx
section
variable {L:List Oper}
theorem at_op {M:List Oper}{i:Nat}{o:Oper}(h:L=M) (h2:M[i]? = some o):L[i]? = some o:=h▸h2
theorem cast_frame {Q:Exit→Act→World→Prop}{a b:Act}{w:World}(h:a=b) (h':Q .normal b w):Q .normal a w:=h▸h'
theorem rgn_open {P:Program}{id:Nat}{ops:List Oper}{Q:Exit→Act→World→Prop}{a:Act}{w:World}(h:∀L,L=ops→(Code.region id L.toArray true).wp P Q a w):(Code.region id ops.toArray true).wp P Q a w:=h _ rfl
end
structure Ent where
 p:Value→World→Prop
 m:∀v w w',p v w→Nw w w'→p v w'
def isV (V:Value):Ent:=⟨fun v _=>v=V,fun _ _ _ h _=>h⟩
def anyV:Ent:=⟨fun _ _=>True,fun _ _ _ h _=>h⟩
def got (tab:List Ent) (i:Nat):Ent:=tab[i]?.getD anyV
section
variable {P:Program}{L lit:List Oper}{o:Oper}{a A0:Act}{w w5:World}{R:Value→World→Prop}{dst:List Nat}{i:Nat}
def OpOk (P:Program) (L:List Oper) (o:Oper) (a:Act) (w:World) (R:Value→World→Prop):Prop:=
 (Region.wanted o (yielded L.toArray a.tmps)=false∧R undef w) ∨
 (Region.wanted o (yielded L.toArray a.tmps)=true∧((∃v w',(execOp a.eval o).run P w=.ok (.value v) w'∧R v w')∨∃f args,(execOp a.eval o).run P w=.ok (.enter f args) w∧Calls P f args w fun e w'=>∃v,e=.returned v∧R v w'))
theorem OpOk.wp {Q:Exit→Act→World→Prop}{K:Act→World→Prop}{d:Nat}(ho:L[i]? = some o) (hd:o.dst=some d) (h:OpOk P L o a w R) (hK:∀v w',R v w'→K (a.put (some d) v) w'):wpOp P L.toArray Q i K a w:=by
 simp only[wpOp,at_list ho]
 rcases h with ⟨hw,h⟩|⟨hw,⟨v,w',hr,h⟩|⟨f,args,hr,hc⟩⟩
 ·rw[if_neg (by rw[hw];simp),hd]
  exact hK _ _ h
 ·rw[if_pos hw]
  refine .inl ?_
  unfold Oper.wp
  rw[hr]
  simp only[Oper.upon]
  rw[hd]
  exact hK _ _ h
 ·rw[if_pos hw]
  refine .inl ?_
  unfold Oper.wp
  rw[hr]
  simp only[Oper.upon]
  refine hc.mono fun e w' he=>?_
  obtain⟨v,rfl,h⟩:=he
  rw[hd]
  exact hK _ _ h
theorem OpOk.skip (h:Region.wanted o (yielded L.toArray a.tmps)=false) (hR:R undef w):OpOk P L o a w R:=.inl ⟨h,hR⟩
theorem OpOk.val (v:Value) (h:Region.wanted o (yielded L.toArray a.tmps)=true) (fs:List (Nat×Value)) (hf:∀x∈fs,a.tmps[x.1]? = some x.2)
  (hv:∀ρ:Operand→Value,(∀x∈fs,ρ (.tmp x.1)=x.2)→Consts ρ→(execOp ρ o).run P w=.ok (.value v) w) (hR:R v w):OpOk P L o a w R:=
 .inr ⟨h,.inl ⟨v,w,hv _ (fun x hx=>eval_of (hf x hx)) ⟨fun _=>rfl,fun _=>rfl⟩,hR⟩⟩
theorem OpOk.call {f:FuncId}{args:Array Value}{R':Ending→World→Prop}(h:Region.wanted o (yielded L.toArray a.tmps)=true) (fs:List (Nat×Value)) (hf:∀x∈fs,a.tmps[x.1]? = some x.2)
  (hv:∀ρ:Operand→Value,(∀x∈fs,ρ (.tmp x.1)=x.2)→Consts ρ→(execOp ρ o).run P w=.ok (.enter f args) w) (hc:Calls P f args w R') (hR:∀e w',R' e w'→∃v,e=.returned v∧R v w'):OpOk P L o a w R:=
 .inr ⟨h,.inr ⟨f,args,hv _ (fun x hx=>eval_of (hf x hx)) ⟨fun _=>rfl,fun _=>rfl⟩,hc.mono hR⟩⟩
theorem tab_yielded {tmps:Array Value}{j dj:Nat}{x:Bool}(hL:L.map Oper.dst=dst.map some) (hj:dst[j]? = some dj) (hy:tmps[dj]? = some (.bool x)):yielded L.toArray tmps j=some x:=by
 have h:(L.map Oper.dst)[j]? = (dst.map some)[j]?:=by rw[hL]
 rw[List.getElem?_map,List.getElem?_map,hj]at h
 cases h2:L[j]? with
 |none=>rw[h2]at h;cases h
 |some oj=>rw[h2]at h;exact yielded_at h2 (by simpa using h) hy
theorem tab_yes {tmps:Array Value}{j dj:Nat}{b:Bool}(hL:L.map Oper.dst=dst.map some) (hg:o.guard=some (j,b)) (hj:dst[j]? = some dj) (hy:tmps[dj]? = some (.bool b)):Region.wanted o (yielded L.toArray tmps)=true:=by
 unfold Region.wanted
 rw[hg]
 simp only[tab_yielded hL hj hy]
 cases b <;> rfl
theorem tab_no {tmps:Array Value}{j dj:Nat}{b:Bool}(hL:L.map Oper.dst=dst.map some) (hg:o.guard=some (j,b)) (hj:dst[j]? = some dj) (hy:tmps[dj]? = some (.bool (!b))):Region.wanted o (yielded L.toArray tmps)=false:=by
 unfold Region.wanted
 rw[hg]
 simp only[tab_yielded hL hj hy]
 cases b <;> rfl
theorem wp_region_tab {id:Nat}{Q:Exit→Act→World→Prop}(dst:List Nat) (tab:List Ent) (hm:P.follows .mixedOrders=true) (hb:Region.backB lit.toArray=true) (hdst:lit.map Oper.dst=dst.map some) (hnd:dst.Nodup) (hin:∀d∈dst,d<A0.tmps.size)
  (hs:∀L:List Oper,L.map Oper.dst=dst.map some→EachO (fun i o=>∀a w,Nw w5 w→(∀t v,dst.contains t=false→A0.tmps[t]? = some v→a.tmps[t]? = some v)→(∀j d,waits o j=true→dst[j]? = some d→∃v,a.tmps[d]? = some v∧(got tab j).p v w) →
   OpOk P L o a w fun v w'=>Nw w w'∧(got tab i).p v w') 0 lit)
  (he:∀a w,Nw w5 w→a.tmps.size=A0.tmps.size→a.defers=A0.defers→(∀t,dst.contains t=false→a.tmps[t]? = A0.tmps[t]?)→(∀i d,dst[i]? = some d→∃v,a.tmps[d]? = some v∧(got tab i).p v w)→Q .normal a w) :
  (Code.region id lit.toArray true).wp P Q A0 w5:=by
 have hlen:lit.length=dst.length:=by have:=congrArg List.length hdst;simpa using this
 refine wp_region_any hm (wpAny_inv (fun D a w=>Nw w5 w∧a.tmps.size=A0.tmps.size∧a.defers=A0.defers∧(∀t,dst.contains t=false→a.tmps[t]? = A0.tmps[t]?)∧∀i d,D i→dst[i]? = some d→∃v,a.tmps[d]? = some v∧(got tab i).p v w) hb
  (fun D i o ho h1 h2 a w h3=>?_) (fun D a w h1 h2=>?_) _ _ (fun _=>False) A0 w5.drew (by simp) (fun i hi=>?_) (by simp) ?_)
 ·obtain⟨k1,k2,k3,k4,k5⟩:=h3
  have ho':lit[i]? = some o:=by simpa using ho
  have hd:∃d,dst[i]? = some d∧o.dst=some d:=by
   have h:(lit.map Oper.dst)[i]? = (dst.map some)[i]?:=by rw[hdst]
   rw[List.getElem?_map,List.getElem?_map,ho']at h
   cases h2:dst[i]? with
   |none=>rw[h2]at h;cases h
   |some d=>rw[h2]at h;exact⟨d,rfl,by simpa using h⟩
  obtain⟨d,hd,hod⟩:=hd
  have hdm:d∈dst:=List.mem_of_getElem? hd
  have hE:=of_each (hs lit hdst) i o ho' a w k1 (fun t v ht hv=>by rw[k4 t ht];exact hv) (fun j dj hj hdj=>k5 j dj (waits_of h1 j hj) hdj)
  refine hE.wp ho' hod fun v w' ⟨n,hp⟩=>⟨k1.trans n,?_,?_,?_,?_⟩
  ·simp[Act.put,k2]
  ·simp[Act.put,k3]
  ·intro t ht
   have hne:d≠t:=fun e=>by
    subst e
    have:dst.contains d=true:=by simpa using hdm
    rw[this]at ht
    cases ht
   rw[put_at hne]
   exact k4 t ht
  ·intro j dj hj hdj
   by_cases hji:j=i
   ·subst hji
    rw[hd]at hdj
    cases hdj
    have hlt:d<a.tmps.size:=by rw[k2];exact hin d hdm
    exact⟨v,by simp[Act.put,hlt],hp⟩
   ·have hne:d≠dj:=fun e=>by
     subst e
     obtain⟨p1,q1⟩:=List.getElem?_eq_some_iff.1 hd
     obtain⟨p2,q2⟩:=List.getElem?_eq_some_iff.1 hdj
     exact hji ((List.getElem_inj hnd).1 (q2.trans q1.symm))
    obtain⟨u,e1,e2⟩:=k5 j dj (hj.resolve_left hji) hdj
    exact⟨u,by rw[put_at hne];exact e1,(got tab j).m _ _ _ e2 n⟩
 ·obtain⟨k1,k2,k3,k4,k5⟩:=h2
  refine he a w k1 k2 k3 k4 fun i d hd=>k5 i d (h1 i ?_) hd
  obtain⟨p1,-⟩:=List.getElem?_eq_some_iff.1 hd
  simp only[List.size_toArray]
  omega
 ·rw[getD_replicate_false];simp
 ·exact⟨(Nw.refl w5).drew,rfl,rfl,fun _ _=>rfl,fun _ _ h=>h.elim⟩
def laid (dst:List Nat) (l:List Value) (S:Nat→Value):List Value:=l.zipIdx.map fun x=>bif dst.contains x.2 then S x.2 else x.1
theorem frame_lit {l:List Value}(hA:A0=⟨l.toArray,[]⟩) (hsz:a.tmps.size=A0.tmps.size) (hdf:a.defers=A0.defers) (old:∀t,dst.contains t=false→a.tmps[t]? = A0.tmps[t]?){l':List Value}(hl:laid dst l (fun t=>(a.tmps[t]?).getD undef)=l'):a=⟨l'.toArray,[]⟩:=by
 subst hA hl
 obtain⟨tm,df⟩:=a
 simp only at hsz hdf old ⊢
 subst hdf
 congr 1
 apply Array.ext_getElem?
 intro t
 simp only[laid]
 by_cases ht:t<l.length
 ·have ht':t<tm.size:=by rw[hsz];simpa using ht
  have e:((l.zipIdx.map fun x=>bif dst.contains x.2 then tm[x.2]?.getD undef else x.1).toArray)[t]? = some (bif dst.contains t then tm[t]?.getD undef else l[t]):=by
   rw[List.getElem?_toArray,List.getElem?_map,List.getElem?_zipIdx,List.getElem?_eq_getElem ht]
   simp
  rw[e]
  cases hc:dst.contains t with
  |true=>simp[ht']
  |false =>
   have:=old t hc
   rw[this]
   simp[ht]
 ·rw[Array.getElem?_eq_none (by rw[hsz];simpa using ht),Array.getElem?_eq_none (by simpa [laid] using ht)]
theorem tab_frame {Q:Exit→Act→World→Prop}{a b:Act}{w:World}(h:a=b) (h':Q .normal b w):Q .normal a w:=h▸h'
end
theorem name_act {P:Program}{c:Code}{Q:Exit→Act→World→Prop}{a:Act}{w:World}(h:∀B:Act,B=a→Code.wp P c Q B w):Code.wp P c Q a w:=h a rfl
end Go.Proofs.YtkbenkldfehhlaaGreatDoor
