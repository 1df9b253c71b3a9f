/-
  Texts merged by a program of this claim's: RecUse, EndPlain, Sames, EndUse, KeepUse, KeepUse2, TellsPlain, RTellsR, DocGet.
-/
import Derived.Test.YtkbenkldfehhlaaGreatDoorM28
import Derived.Test.YtkbenkldfehhlaaGreatDoorM26
import Derived.Test.YtkbenkldfehhlaaGreatDoorM19
import Derived.Test.YtkbenkldfehhlaaGreatDoorM10
import Derived.Test.YtkbenkldfehhlaaGreatDoorM9
import Derived.Laws.StructEq
import Derived.Test.YtkbenkldfehhlaaGreatDoorM20
import Derived.Test.YtkbenkldfehhlaaGreatDoorM7
import Derived.Test.YtkbenkldfehhlaaGreatDoorM25
import Derived.Test.YtkbenkldfehhlaaGreatDoorM29
import Derived.Test.YtkbenkldfehhlaaGreatDoorM24
import Derived.Test.YtkbenkldfehhlaaGreatDoorM11
import Derived.Test.YtkbenkldfehhlaaGreatDoorM23
import Derived.Test.YtkbenkldfehhlaaGreatDoorM6
import Derived.Test.YtkbenkldfehhlaaGreatDoorM21
import Derived.Test.YtkbenkldfehhlaaGreatDoorM22
namespace Go.Proofs.YtkbenkldfehhlaaGreatDoor
open Go
section
variable {d:Dsk}{l A:List Pc}{p:Pc}{old told all:List Ev}{fs:List (List Ev)}{t:List UInt8}{m sure c:Nat}{L:Lg}{F:List (Str×DFile)}{size:Int}
end
set_option maxRecDepth 100000
section
variable {z:Int}{c:Nat}{d:Dsk}{L:Lg}{es:List Ev}
end
open Go.RowKit Go.Sort
set_option maxHeartbeats 1600000
theorem neq_pc (q:Pc) (w:World):(binOp .neq 98 (.agg #[.string ⟨q.name.toArray⟩,.int .i64 q.first,.int .i64 q.count,.bool q.dense]) (.agg #[.string ⟨q.name.toArray⟩,.int .i64 q.first,.int .i64 q.count,.bool q.dense])).run Tryz.prog w=.ok (.bool false) w:=by
 have hS:Tryz.prog.underlying 98=some (.struct (Tryz.prog.fieldsOf 98)):=by kernel_rfl
 have hp:Tryz.prog.stoodInHeld 98=false:=by kernel_rfl
 have u1:=Tryz.underlying9
 have u2:=Tryz.underlying3
 have u3:=Tryz.underlying4
 rw[run_neq_struct,show (10000:Nat)=9999+1 from rfl,run_equalIn_agg w 9999 98 _ _ hS hp]
 simp only[Program.fieldsOf,Tryz.underlying98]
 go_simp
theorem neq_ev (e:Ev) (w:World):(binOp .neq 87 (.agg #[.int .i64 e.thread,.int .u8 e.op.toNat,.int .i64 e.obj,.int .i64 e.a,.int .i64 e.b]) (.agg #[.int .i64 e.thread,.int .u8 e.op.toNat,.int .i64 e.obj,.int .i64 e.a,.int .i64 e.b])).run Tryz.prog w=.ok (.bool false) w:=by
 have hS:Tryz.prog.underlying 87=some (.struct (Tryz.prog.fieldsOf 87)):=by kernel_rfl
 have hp:Tryz.prog.stoodInHeld 87=false:=by kernel_rfl
 have u1:=Tryz.underlying3
 have u2:=Tryz.underlying85
 rw[run_neq_struct,show (10000:Nat)=9999+1 from rfl,run_equalIn_agg w 9999 87 _ _ hS hp]
 simp only[Program.fieldsOf,Tryz.underlying87]
 go_simp
theorem SamePieces_ok {w:World}{v u:Value}{l:List Pc}(h:Pcs w v l) (h':Pcs w u l) :
  Calls Tryz.prog 11 #[v,u] w fun e w'=>e=.returned (.bool true)∧Nw w w':=by
 obtain⟨la,lc,rfl,hl1,hl2,hle⟩:=h.elem
 obtain⟨ka,kc,rfl,-,-,hke⟩:=h'.elem
 have HL:=zH hle
 have HK:=zH hke
 obtain⟨n,hn⟩:=zN (l.length)
 have HN:=zH hn
 have hn63:n≤9223372036854775807:=by unfold maxLen at hl2;omega
 rw[hn]
 have hgd:Tryz.prog.eqGuardType Tryz.prog.depth 98=false:=by kernel_rfl
 clear h h' hle hke hl1 hl2 hn
 go_enter Tryz.func11,Tryz.ntmps11
 go_wp2
 go_loopw [5] (fun i wr=>∃k:Nat,k≤n∧i=.int .i64 k∧Nw w wr) (fun i _=>n-(intOf i).toNat)
 case atStart=>exact⟨0,Nat.zero_le _,rfl,Nw.refl _⟩
 case round =>
  obtain⟨k,hk,rfl,hwr⟩:=hrel
  have HW:=zH hwr
  clear hwr
  by_cases hlt:k<n
  ·have hkl:k<l.length:=by rw[HN.out];exact hlt
   obtain⟨g,o,rfl,hg,c0,c1,c2,c3⟩:=HL.out k hkl
   obtain⟨g2,o2,rfl,hg2,d0,d1,d2,d3⟩:=HK.out k hkl
   generalize l[k]=q at c0 c1 c2 c3 d0 d1 d2 d3
   have heq:=neq_pc q
   have c0:=HW.out.cell c0
   have c1:=HW.out.cell c1
   have c2:=HW.out.cell c2
   have c3:=HW.out.cell c3
   have d0:=HW.out.cell d0
   have d1:=HW.out.cell d1
   have d2:=HW.out.cell d2
   have d3:=HW.out.cell d3
   have hg:=Nat.lt_of_lt_of_le hg HW.out.size
   have hg2:=Nat.lt_of_lt_of_le hg2 HW.out.size
   clear hkl
   go_upto_region 6 with fail
   have c0:=cellG c0
   have c1:=cellG c1
   have c2:=cellG c2
   have c3:=cellG c3
   have d0:=cellG d0
   have d1:=cellG d1
   have d2:=cellG d2
   have d3:=cellG d3
   refine wp_region_quiet_below (by kernel_rfl) (by kernel_rfl) ?_
   repeat (first|go_big_quiet_step (fail)|quiet_step (fail))
   refine wpQuiet_nil ?_
   intro w2 hw2
   have hw2:=zH (Nw.of_regrown hw2)
   clear c0 c1 c2 c3 d0 d1 d2 d3 heq
   go_wp2
   go_roundw
   case rel=>exact⟨k+1,by omega,by go_num,HW.out.trans hw2.out⟩
   case measure=>simp[intOf];omega
  ·go_wp2
   go_ret
   exact⟨rfl,HW.out⟩
theorem SameEvents_ok {w:World}{v u:Value}{l:List Ev}(h:Evs w v l) (h':Evs w u l) :
  Calls Tryz.prog 10 #[v,u] w fun e w'=>e=.returned (.bool true)∧Nw w w':=by
 obtain⟨la,lc,rfl,hl2,hle⟩:=h.elem
 obtain⟨ka,kc,rfl,-,hke⟩:=h'.elem
 have HL:=zH hle
 have HK:=zH hke
 obtain⟨n,hn⟩:=zN (l.length)
 have HN:=zH hn
 have hn63:n≤9223372036854775807:=by unfold maxLen at hl2;omega
 rw[hn]
 have hgd:Tryz.prog.eqGuardType Tryz.prog.depth 87=false:=by kernel_rfl
 clear h h' hle hke hl2 hn
 go_enter Tryz.func10,Tryz.ntmps10
 go_wp2
 go_loopw [5] (fun i wr=>∃k:Nat,k≤n∧i=.int .i64 k∧Nw w wr) (fun i _=>n-(intOf i).toNat)
 case atStart=>exact⟨0,Nat.zero_le _,rfl,Nw.refl _⟩
 case round =>
  obtain⟨k,hk,rfl,hwr⟩:=hrel
  have HW:=zH hwr
  clear hwr
  by_cases hlt:k<n
  ·have hkl:k<l.length:=by rw[HN.out];exact hlt
   obtain⟨g,o,rfl,hg,c0,c1,c2,c3,c4⟩:=HL.out k hkl
   obtain⟨g2,o2,rfl,hg2,d0,d1,d2,d3,d4⟩:=HK.out k hkl
   generalize l[k]=q at c0 c1 c2 c3 c4 d0 d1 d2 d3 d4
   have heq:=neq_ev q
   have c0:=HW.out.cell c0
   have c1:=HW.out.cell c1
   have c2:=HW.out.cell c2
   have c3:=HW.out.cell c3
   have c4:=HW.out.cell c4
   have d0:=HW.out.cell d0
   have d1:=HW.out.cell d1
   have d2:=HW.out.cell d2
   have d3:=HW.out.cell d3
   have d4:=HW.out.cell d4
   have hg:=Nat.lt_of_lt_of_le hg HW.out.size
   have hg2:=Nat.lt_of_lt_of_le hg2 HW.out.size
   clear hkl
   go_upto_region 6 with fail
   have c0:=cellG c0
   have c1:=cellG c1
   have c2:=cellG c2
   have c3:=cellG c3
   have c4:=cellG c4
   have d0:=cellG d0
   have d1:=cellG d1
   have d2:=cellG d2
   have d3:=cellG d3
   have d4:=cellG d4
   refine wp_region_quiet_below (by kernel_rfl) (by kernel_rfl) ?_
   repeat (first|go_big_quiet_step (fail)|quiet_step (fail))
   refine wpQuiet_nil ?_
   intro w2 hw2
   have hw2:=zH (Nw.of_regrown hw2)
   clear c0 c1 c2 c3 c4 d0 d1 d2 d3 d4 heq
   go_wp2
   go_roundw
   case rel=>exact⟨k+1,by omega,by go_num,HW.out.trans hw2.out⟩
   case measure=>simp[intOf];omega
  ·go_wp2
   go_ret
   exact⟨rfl,HW.out⟩
section
variable {X Y:Nat→Prop}{w0 w w':World}{p b:Nat}{d d':Dsk}{L:Lg}
end
end Go.Proofs.YtkbenkldfehhlaaGreatDoor
namespace Go.Proofs.YtkbenkldfehhlaaGreatDoor
open Go
open Go.RowKit Go.Sort
set_option maxRecDepth 100000
section
variable {z:Int}{c:Nat}{L:Lg}{d:Dsk}{es all told:List Ev}{Wh:Pc→List UInt8→List Ev→Prop}{F:List (Str×DFile)}
variable {X:Nat→Prop}{w0 w:World}{p b:Nat}
end
section
variable {U:List UInt8→Int×List Ev×Int}{d:Dsk}{size:Int}{told all:List Ev}{s:Nat}
theorem op_most (d:Dsk) (may:Int) (act:List (Str×DFile)→List (Str×DFile)):(d.op may act).1.most=d.most:=by
 unfold Dsk.op
 repeat' split
 all_goals rfl
theorem rmAll_most (stays:List Str):∀(l:List Str) (d:Dsk),(rmAll stays l d).1.most=d.most
 |[],d=>rfl
 |n::l,d=>by
  unfold rmAll
  repeat' split
  ·exact rmAll_most stays l d
  ·exact op_most _ _ _
  ·exact (rmAll_most stays l _).trans (op_most _ _ _)
theorem mendD_most (U:List UInt8→Int×List Ev×Int) (d:Dsk):(mendD U d).d.most=d.most:=by
 have hc:∀(ps:List Pc) (g:Int),(cutD d ps g).1.most=d.most:=fun ps g=>by
  unfold cutD
  split
  ·exact op_most _ _ _
  ·rfl
 unfold mendD mendWith
 repeat' split
 ·rfl
 ·exact hc _ _
 ·exact (rmAll_most _ _ _).trans (hc _ _)
 ·exact (rmAll_most _ _ _).trans (hc _ _)
end
end Go.Proofs.YtkbenkldfehhlaaGreatDoor
namespace Go.Proofs.YtkbenkldfehhlaaGreatDoor
set_option maxRecDepth 100000
theorem sums_in:∀(D:List Int) (n:Int),∀x∈sums n D,in64 x
 |[],_,x,h=>by cases h
 |d::D,n,x,h=>by
  simp only[sums,List.mem_cons]at h
  rcases h with rfl|h
  ·exact w64_in _
  ·exact sums_in D _ x h
theorem colR_in {b:List UInt8}{ok:Int→Bool}:∀(r:Nat) (rem:Nat),rem=r→∀(first:Bool) (last n at_:Int) (acc vs:List Int) (x:Int),colR b ok rem first last n at_ acc=some (vs,x)→(∀y∈acc,in64 y)→∀y∈vs,in64 y:=by
 intro r
 induction r using Nat.strongRecOn with
 |ind r ih =>
  intro rem hr first last n at_ acc vs x h ha
  unfold colR at h
  split at h
  ·simp only[Option.some.injEq,Prod.mk.injEq]at h
   rw[←h.1];exact ha
  rename_i h0
  split at h
  ·cases h
  split at h
  ·cases h
  rename_i h2
  split at h
  ·cases h
  ·refine ih _ (by omega) _ rfl _ _ _ _ _ _ _ h (fun y hy=>?_)
   rcases List.mem_append.1 hy with hy|hy
   ·exact ha y hy
   ·exact sums_in _ _ y hy
theorem zip_ok {set:Ev→Int→Ev}(hs:∀e v,e.Ok→in64 v→(set e v).Ok):∀(es:List Ev) (vs:List Int),(∀e∈es,e.Ok)→(∀v∈vs,in64 v)→∀e∈List.zipWith set es vs,e.Ok
 |[],_,_,_,e,h=>by simp at h
 |_::_,[],_,_,e,h=>by simp at h
 |a::es,v::vs,h1,h2,e,h=>by
  simp only[List.zipWith_cons_cons,List.mem_cons]at h
  rcases h with rfl|h
  ·exact hs _ _ (h1 a (by simp)) (h2 v (by simp))
  ·exact zip_ok hs es vs (fun x hx=>h1 x (by simp[hx])) (fun x hx=>h2 x (by simp[hx])) e h
theorem colsR_ok (u:List UInt8):∀(cs:List ((Ev→Int→Ev)×(Int→Bool))) (es r:List Ev) (a x:Int),(∀c∈cs,∀e v,Ev.Ok e→in64 v→(c.1 e v).Ok)→(∀e∈es,e.Ok)→colsR u cs es a=some (r,x)→∀e∈r,e.Ok
 |[],es,r,a,x,_,h1,h=>by
  simp only[colsR,Option.some.injEq,Prod.mk.injEq]at h
  rw[←h.1];exact h1
 |(set,ok)::cs,es,r,a,x,hc,h1,h=>by
  unfold colsR at h
  split at h
  ·cases h
  ·rename_i vs x2 hv
   exact colsR_ok u cs _ r _ x (fun c hc'=>hc c (by simp[hc'])) (zip_ok (hc (set,ok) (by simp)) es vs h1 (colR_in _ _ rfl _ _ _ _ _ _ _ hv (fun _ h=>by cases h))) h
theorem unpackB_ok (b:List UInt8):∀e∈(unpackB b).2.1,e.Ok:=by
 unfold unpackB
 split
 ·intro e h;cases h
 unfold unpackIn
 split
 ·intro e h;cases h
 split
 ·intro e h;cases h
 split
 ·intro e h;cases h
 split
 ·intro e h;cases h
 rename_i es at_ hc
 split
 ·intro e h;cases h
 ·refine colsR_ok _ _ _ _ _ _ ?_ ?_ hc
  ·intro c hc e v he hv
   simp only[cols,List.mem_cons,List.not_mem_nil,or_false]at hc
   rcases hc with rfl|rfl|rfl|rfl|rfl
   ·exact⟨hv,he.obj,he.a,he.b⟩
   ·exact⟨he.thread,he.obj,he.a,he.b⟩
   ·exact⟨he.thread,hv,he.a,he.b⟩
   ·exact⟨he.thread,he.obj,hv,he.b⟩
   ·exact⟨he.thread,he.obj,he.a,hv⟩
  ·intro e he
   rw[List.eq_of_mem_replicate he]
   exact zero_ok
theorem frs_ok (b:List UInt8):∀(k:Nat) (at_:Int) (acc:List Ev),((b.length:Int)-at_).toNat=k→(∀e∈acc,e.Ok)→∀e∈(frs b at_ acc).1,e.Ok:=by
 intro k
 induction k using Nat.strongRecOn with
 |ind k ih =>
  intro at_ acc hk ha
  by_cases he:(readFr b at_).2.2=0
  ·have hf:=readFr_fine he
   rw[frs_yes he]
   refine ih _ (by omega) (readFr b at_).2.1 (acc++(readFr b at_).1) rfl (fun e h=>?_)
   rcases List.mem_append.1 h with h|h
   ·exact ha e h
   ·exact hf.2.2.2.1 e h
  ·rw[frs_no he]
   exact ha
theorem segR_ok (dn:Bool) (b:List UInt8):∀e∈(segR unpackB dn b).2.1,e.Ok:=by
 unfold segR
 split
 ·exact unpackB_ok b
 ·unfold scanB
  split
  ·intro e h;cases h
  ·exact frs_ok b _ _ _ rfl (fun _ h=>by cases h)
theorem pcsD_ok {d:Dsk}:∀(l:List Pc) (out:List Ev) (g:Int),(∀e∈out,e.Ok)→∀e∈(pcsD unpackB d l out g).1,e.Ok
 |[],out,_,h=>h
 |q::l,out,g,h=>by
  rw[pcsD_cons]
  split
  ·intro e h;cases h
  ·refine pcsD_ok l _ _ (fun e he=>?_)
   rcases List.mem_append.1 he with he|he
   ·exact h e he
   ·unfold pieceD at he
    split at he
    ·cases he
    ·split at he
     ·cases he
     ·exact segR_ok _ _ e he
theorem scanD_evs (d:Dsk):∀e∈(scanD unpackB d).es,e.Ok:=by
 unfold scanD
 split
 ·intro e h;cases h
 split
 ·intro e h;cases h
 split
 ·intro e h;cases h
 split
 ·intro e h;cases h
 ·exact pcsD_ok _ _ _ (fun _ h=>by cases h)
theorem mendD_evs (d:Dsk):∀e∈(mendD unpackB d).es,e.Ok:=by
 unfold mendD mendWith
 split
 ·intro e h;cases h
 split
 ·intro e h;cases h
 split
 ·intro e h;cases h
 ·exact scanD_evs d
theorem openD_evs (d:Dsk) (size:Int):∀e∈(openD unpackB d size).es,e.Ok:=by
 unfold openD
 split
 ·intro e h;cases h
 split
 ·intro e h;cases h
 split
 ·split
  ·intro e h;cases h
  ·exact mendD_evs d
 ·split
  ·intro e h;cases h
  ·exact mendD_evs d
theorem madeD_most (l:List (Str×List UInt8)):(madeD l).most=1048576:=by
 unfold madeD
 have key:∀(l:List (Str×List UInt8)) (d:Dsk),(l.foldl (fun d x=>(d.append x.1 x.2).1) d).most=d.most:=by
  intro l
  induction l with
  |nil=>intro d;rfl
  |cons x l ih=>intro d;rw[List.foldl_cons,ih];exact op_most d _ _
 rw[key]
 rfl
theorem armed_most (d:Dsk) (n:Int):(d.armed n).most=d.most:=by
 unfold Dsk.armed
 split <;> rfl
theorem openD_none {U:List UInt8→Int×List Ev×Int}{d:Dsk}{size:Int}(h:(openD U d size).e≠0):(openD U d size).es=[]:=by
 unfold openD at h ⊢
 split
 ·rfl
 rename_i h1
 rw[if_neg h1]at h
 split
 ·rfl
 rename_i h2
 rw[if_neg h2]at h
 split
 ·rename_i h3
  rw[if_pos h3]at h
  split
  ·rfl
  ·rename_i h4;rw[if_neg h4]at h;exact absurd rfl h
 ·rename_i h3
  rw[if_neg h3]at h
  split
  ·rfl
  ·rename_i h4;rw[if_neg h4]at h;exact absurd rfl h
theorem mendD_right {U:List UInt8→Int×List Ev×Int}{d:Dsk}:(mendD U d).ps=[]∨rightL (mendD U d).ps=true:=by
 unfold mendD mendWith
 split
 ·exact .inl rfl
 split
 ·exact .inl rfl
 split
 ·exact .inl rfl
 ·exact scanD_right
theorem openD_len {U:List UInt8→Int×List Ev×Int}{d:Dsk}{size:Int}(_h:(openD U d size).e=0):(openD U d size).L.l.length≤100:=by
 unfold openD
 split
 ·simp[newLg]
 split
 ·simp[newLg]
 split
 ·split <;> simp[newLg]
 ·rename_i h3
  split
  ·simp[newLg]
  ·have:=(rightL_bound (mendD_right.resolve_left h3:rightL (mendD U d).ps=true)).2.1
   exact this
open Go Go.RowKit Go.Sort
set_option maxHeartbeats 1600000 in
theorem rtl1 {w5:World}{p q:Nat}{Lq:Lg}{pa:Option Addr}{pc:Nat}(AW:Hid (∀W,Nw w5 W→Calls Tryz.prog 6 #[] W fun e w'=>e=.returned (.bool true)∧Nw W w'))
  (LN:Hid (∀W,Nw w5 W→Calls Tryz.prog 19 #[.pointer (some ⟨p,0,none⟩)] W fun e w'=>e=.returned (.int .i64 Lq.n)∧W=w'))
  (LA:Hid (∀W,Nw w5 W→Calls Tryz.prog 20 #[.pointer (some ⟨p,0,none⟩)] W fun e w'=>e=.returned (.int .i64 Lq.acked)∧W=w'))
  (LP:Hid (∀W,Nw w5 W→Calls Tryz.prog 21 #[.pointer (some ⟨p,0,none⟩)] W fun e w'=>∃a c,e=.returned (.slice a Lq.l.length c)∧Pcs w' (.slice a Lq.l.length c) Lq.l∧Nw W w'))
  (SQ:Hid (∀W,Nw w5 W→∀a c,Pcs W (.slice a Lq.l.length c) Lq.l→Calls Tryz.prog 11 #[.slice a Lq.l.length c,.slice pa Lq.l.length pc] W fun e w'=>e=.returned (.bool true)∧Nw W w'))
  (LQ:Hid (q<w5.heap.size)) (C1:Hid (w5.cell? ⟨q,1,none⟩=some (.slice pa Lq.l.length pc))) (C2:Hid (w5.cell? ⟨q,2,none⟩=some (.int .i64 Lq.n))) (C3:Hid (w5.cell? ⟨q,3,none⟩=some (.int .i64 Lq.acked)))
  {u0 u1 u2 u3 u4 u5 u6 u7 u8 u9 u10 u11 u12 u13 u14 u15 u18 u19 u20 u21 u22 u23 u24 u25 u26 u27 u28 u29 u30 u31 u32 u33 u34 u35 u36 u37 u38 u39 u40 u41 u42 u43 u44 u45 u46 u47 u48 u49 u50 u51 u52 u53 u54 u55 u56 u57 u58 u59 u60 u61 u62 u63 u64 u65 u66 u67 u68 u69 u70 u71 u72 u73 u74 u75 u76 u77 u78 u79 u80 u81 u82 u83 u84 u85 u86 u87 u88 u89 u90 u91 u92 u93 u94 u95 u96 u97 u98 u99 u100 u101 u102 u103 u104 u105 u106 u107 u108 u109 u110 u111 u112 u113 u114 u115 u116 u117 u118 u119 u120 u121 u122 u123 u124 u125 u126 u127 u128 u129 u130 u131 u132 u133 u134 u135 u136 u137 u138 u139 u140 u141 u142 u143 u144 u145 u146 u147 u148 u149 u150 u151 u152 u153 u154 u155 u156 u157 u158 u159 u160 u161 u162 u163 u164 u165:Value}{Q:Exit→Act→World→Prop}
  (hQ:∀(s6 s140 s141 s142 s143 s144 s145 s146 s147 s148 s149 s150 s151 s152 s153 s154 s155 s156 s157 s158 s159 s160 s161 s162 s163 s164 s165:Value) (wx:World),Nw w5 wx→s6=.bool true→Q .normal ⟨#[u0,u1,u2,u3,u4,u5,s6,u7,u8,u9,u10,u11,u12,u13,u14,u15,.pointer (some ⟨p,0,none⟩),.pointer (some ⟨q,0,none⟩),u18,u19,u20,u21,u22,u23,u24,u25,u26,u27,u28,u29,u30,u31,u32,u33,u34,u35,u36,u37,u38,u39,u40,u41,u42,u43,u44,u45,u46,u47,u48,u49,u50,u51,u52,u53,u54,u55,u56,u57,u58,u59,u60,u61,u62,u63,u64,u65,u66,u67,u68,u69,u70,u71,u72,u73,u74,u75,u76,u77,u78,u79,u80,u81,u82,u83,u84,u85,u86,u87,u88,u89,u90,u91,u92,u93,u94,u95,u96,u97,u98,u99,u100,u101,u102,u103,u104,u105,u106,u107,u108,u109,u110,u111,u112,u113,u114,u115,u116,u117,u118,u119,u120,u121,u122,u123,u124,u125,u126,u127,u128,u129,u130,u131,u132,u133,u134,u135,u136,u137,u138,u139,s140,s141,s142,s143,s144,s145,s146,s147,s148,s149,s150,s151,s152,s153,s154,s155,s156,s157,s158,s159,s160,s161,s162,s163,s164,s165],[]⟩ wx) :
  Code.wp Tryz.prog ((Tryz.f3.body.bind (regionOf 19)).getD .skip) Q ⟨#[u0,u1,u2,u3,u4,u5,u6,u7,u8,u9,u10,u11,u12,u13,u14,u15,.pointer (some ⟨p,0,none⟩),.pointer (some ⟨q,0,none⟩),u18,u19,u20,u21,u22,u23,u24,u25,u26,u27,u28,u29,u30,u31,u32,u33,u34,u35,u36,u37,u38,u39,u40,u41,u42,u43,u44,u45,u46,u47,u48,u49,u50,u51,u52,u53,u54,u55,u56,u57,u58,u59,u60,u61,u62,u63,u64,u65,u66,u67,u68,u69,u70,u71,u72,u73,u74,u75,u76,u77,u78,u79,u80,u81,u82,u83,u84,u85,u86,u87,u88,u89,u90,u91,u92,u93,u94,u95,u96,u97,u98,u99,u100,u101,u102,u103,u104,u105,u106,u107,u108,u109,u110,u111,u112,u113,u114,u115,u116,u117,u118,u119,u120,u121,u122,u123,u124,u125,u126,u127,u128,u129,u130,u131,u132,u133,u134,u135,u136,u137,u138,u139,u140,u141,u142,u143,u144,u145,u146,u147,u148,u149,u150,u151,u152,u153,u154,u155,u156,u157,u158,u159,u160,u161,u162,u163,u164,u165],[]⟩ w5:=by
 (try dsimp only at hQ ⊢)
 conv=>arg 2;whnf
 have HQ:=zH hQ
 clear hQ
 refine name_act fun A hA=>?_
 have hA16:A.tmps[16]? = some (.pointer (some ⟨p,0,none⟩)):=by rw[hA];rfl
 have hA17:A.tmps[17]? = some (.pointer (some ⟨q,0,none⟩)):=by rw[hA];rfl
 have hlt0:∀d∈([140,141,142,143,144,145,146,147,148,149,150,151,152,153,154,155,156,157,158,159,160,161,162,163,164,165,6]:List Nat),d<166:=by decide
 refine wp_region_tab [140,141,142,143,144,145,146,147,148,149,150,151,152,153,154,155,156,157,158,159,160,161,162,163,164,165,6] [isV (.pointer (some ⟨p,0,none⟩)),isV (.bool false),isV (.bool false),isV (.pointer (some ⟨p,0,none⟩)),isV (.int .i64 Lq.n),isV (.pointer (some ⟨q,2,none⟩)),isV (.int .i64 Lq.n),isV (.bool true),isV (.bool true),isV (.pointer (some ⟨p,0,none⟩)),isV (.int .i64 Lq.acked),isV (.pointer (some ⟨q,3,none⟩)),isV (.int .i64 Lq.acked),isV (.bool true),isV (.bool true),isV (.bool true),isV (.pointer (some ⟨p,0,none⟩)),(⟨fun x w=>∃a c,x=.slice a Lq.l.length c∧Pcs w x Lq.l,fun x w w' ⟨a,c,h1,h2⟩ n=>⟨a,c,h1,h2.nw n⟩⟩),isV (.pointer (some ⟨q,1,none⟩)),isV (.slice pa Lq.l.length pc),isV (.bool true),isV (.bool true),isV (.bool true),isV (.bool true),isV (.bool true),isV (.bool true),isV (.bool true)] (by kernel_rfl) (by kernel_rfl) (by kernel_rfl) (of_decide_eq_true (by kernel_rfl)) (fun d hd=>by rw[hA];exact hlt0 d hd) (fun L hL=>⟨?a0,?a1,?a2,?a3,?a4,?a5,?a6,?a7,?a8,?a9,?a10,?a11,?a12,?a13,?a14,?a15,?a16,?a17,?a18,?a19,?a20,?a21,?a22,?a23,?a24,?a25,?a26,trivial⟩) ?he
 ·intro a w hN old new
  have e16:=old 16 (.pointer (some ⟨p,0,none⟩)) rfl hA16
  exact OpOk.val (.pointer (some ⟨p,0,none⟩)) (w_none rfl) [(16,_)] (forall_cons e16 <| forall_nil) (fun ρ e ⟨c1,c2⟩=>by (try simp only[List.forall_mem_cons]at e);go_simp) ⟨Nw.refl _,rfl⟩
 ·intro a w hN old new
  obtain⟨y140,e140,g140⟩:=new 0 140 rfl rfl
  obtain rfl:y140=.pointer (some ⟨p,0,none⟩):=g140
  exact OpOk.val (.bool false) (w_none rfl) [(140,_)] (forall_cons e140 <| forall_nil) (fun ρ e ⟨c1,c2⟩=>by (try simp only[List.forall_mem_cons]at e);go_simp) ⟨Nw.refl _,rfl⟩
 ·intro a w hN old new
  obtain⟨y141,e141,g141⟩:=new 1 141 rfl rfl
  obtain rfl:y141=.bool false:=g141
  exact OpOk.val (.bool false) (w_none rfl) [(141,_)] (forall_cons e141 <| forall_nil) (fun ρ e ⟨c1,c2⟩=>by (try simp only[List.forall_mem_cons]at e);go_simp) ⟨Nw.refl _,rfl⟩
 ·intro a w hN old new
  obtain⟨y142,e142,g142⟩:=new 2 142 rfl rfl
  obtain rfl:y142=.bool false:=g142
  have e16:=old 16 (.pointer (some ⟨p,0,none⟩)) rfl hA16
  exact OpOk.val (.pointer (some ⟨p,0,none⟩)) (tab_yes hL rfl rfl e142) [(16,_)] (forall_cons e16 <| forall_nil) (fun ρ e ⟨c1,c2⟩=>by (try simp only[List.forall_mem_cons]at e);go_simp) ⟨Nw.refl _,rfl⟩
 ·intro a w hN old new
  obtain⟨y142,e142,g142⟩:=new 2 142 rfl rfl
  obtain rfl:y142=.bool false:=g142
  obtain⟨y143,e143,g143⟩:=new 3 143 rfl rfl
  obtain rfl:y143=.pointer (some ⟨p,0,none⟩):=g143
  refine OpOk.call (tab_yes hL rfl rfl e142) [(143,_)] (forall_cons e143 <| forall_nil) (fun ρ e ⟨c1,c2⟩=>by (try simp only[List.forall_mem_cons]at e);go_simp) (LN.out _ hN) (fun e w1 h=>?_)
  obtain⟨rfl,rfl⟩:=h
  exact⟨_,rfl,Nw.refl _,rfl⟩
 ·intro a w hN old new
  obtain⟨y142,e142,g142⟩:=new 2 142 rfl rfl
  obtain rfl:y142=.bool false:=g142
  have e17:=old 17 (.pointer (some ⟨q,0,none⟩)) rfl hA17
  exact OpOk.val (.pointer (some ⟨q,2,none⟩)) (tab_yes hL rfl rfl e142) [(17,_)] (forall_cons e17 <| forall_nil) (fun ρ e ⟨c1,c2⟩=>by (try simp only[List.forall_mem_cons]at e);go_simp) ⟨Nw.refl _,rfl⟩
 ·intro a w hN old new
  obtain⟨y142,e142,g142⟩:=new 2 142 rfl rfl
  obtain rfl:y142=.bool false:=g142
  obtain⟨y145,e145,g145⟩:=new 5 145 rfl rfl
  obtain rfl:y145=.pointer (some ⟨q,2,none⟩):=g145
  have hc:=hN.cell C2.out
  have hl:=Nat.lt_of_lt_of_le LQ.out hN.size
  exact OpOk.val (.int .i64 Lq.n) (tab_yes hL rfl rfl e142) [(145,_)] (forall_cons e145 <| forall_nil) (fun ρ e ⟨c1,c2⟩=>by (try simp only[List.forall_mem_cons]at e);go_simp) ⟨Nw.refl _,rfl⟩
 ·intro a w hN old new
  obtain⟨y142,e142,g142⟩:=new 2 142 rfl rfl
  obtain rfl:y142=.bool false:=g142
  obtain⟨y144,e144,g144⟩:=new 4 144 rfl rfl
  obtain rfl:y144=.int .i64 Lq.n:=g144
  obtain⟨y146,e146,g146⟩:=new 6 146 rfl rfl
  obtain rfl:y146=.int .i64 Lq.n:=g146
  exact OpOk.val (.bool true) (tab_yes hL rfl rfl e142) [(144,_),(146,_)] (forall_cons e144 <| forall_cons e146 <| forall_nil) (fun ρ e ⟨c1,c2⟩=>by (try simp only[List.forall_mem_cons]at e);go_simp) ⟨Nw.refl _,rfl⟩
 ·intro a w hN old new
  obtain⟨y142,e142,g142⟩:=new 2 142 rfl rfl
  obtain rfl:y142=.bool false:=g142
  obtain⟨y147,e147,g147⟩:=new 7 147 rfl rfl
  obtain rfl:y147=.bool true:=g147
  exact OpOk.val (.bool true) (tab_yes hL rfl rfl e142) [(147,_)] (forall_cons e147 <| forall_nil) (fun ρ e ⟨c1,c2⟩=>by (try simp only[List.forall_mem_cons]at e);go_simp) ⟨Nw.refl _,rfl⟩
 ·intro a w hN old new
  obtain⟨y148,e148,g148⟩:=new 8 148 rfl rfl
  obtain rfl:y148=.bool true:=g148
  have e16:=old 16 (.pointer (some ⟨p,0,none⟩)) rfl hA16
  exact OpOk.val (.pointer (some ⟨p,0,none⟩)) (tab_yes hL rfl rfl e148) [(16,_)] (forall_cons e16 <| forall_nil) (fun ρ e ⟨c1,c2⟩=>by (try simp only[List.forall_mem_cons]at e);go_simp) ⟨Nw.refl _,rfl⟩
 ·intro a w hN old new
  obtain⟨y148,e148,g148⟩:=new 8 148 rfl rfl
  obtain rfl:y148=.bool true:=g148
  obtain⟨y149,e149,g149⟩:=new 9 149 rfl rfl
  obtain rfl:y149=.pointer (some ⟨p,0,none⟩):=g149
  refine OpOk.call (tab_yes hL rfl rfl e148) [(149,_)] (forall_cons e149 <| forall_nil) (fun ρ e ⟨c1,c2⟩=>by (try simp only[List.forall_mem_cons]at e);go_simp) (LA.out _ hN) (fun e w1 h=>?_)
  obtain⟨rfl,rfl⟩:=h
  exact⟨_,rfl,Nw.refl _,rfl⟩
 ·intro a w hN old new
  obtain⟨y148,e148,g148⟩:=new 8 148 rfl rfl
  obtain rfl:y148=.bool true:=g148
  have e17:=old 17 (.pointer (some ⟨q,0,none⟩)) rfl hA17
  exact OpOk.val (.pointer (some ⟨q,3,none⟩)) (tab_yes hL rfl rfl e148) [(17,_)] (forall_cons e17 <| forall_nil) (fun ρ e ⟨c1,c2⟩=>by (try simp only[List.forall_mem_cons]at e);go_simp) ⟨Nw.refl _,rfl⟩
 ·intro a w hN old new
  obtain⟨y148,e148,g148⟩:=new 8 148 rfl rfl
  obtain rfl:y148=.bool true:=g148
  obtain⟨y151,e151,g151⟩:=new 11 151 rfl rfl
  obtain rfl:y151=.pointer (some ⟨q,3,none⟩):=g151
  have hc:=hN.cell C3.out
  have hl:=Nat.lt_of_lt_of_le LQ.out hN.size
  exact OpOk.val (.int .i64 Lq.acked) (tab_yes hL rfl rfl e148) [(151,_)] (forall_cons e151 <| forall_nil) (fun ρ e ⟨c1,c2⟩=>by (try simp only[List.forall_mem_cons]at e);go_simp) ⟨Nw.refl _,rfl⟩
 ·intro a w hN old new
  obtain⟨y148,e148,g148⟩:=new 8 148 rfl rfl
  obtain rfl:y148=.bool true:=g148
  obtain⟨y150,e150,g150⟩:=new 10 150 rfl rfl
  obtain rfl:y150=.int .i64 Lq.acked:=g150
  obtain⟨y152,e152,g152⟩:=new 12 152 rfl rfl
  obtain rfl:y152=.int .i64 Lq.acked:=g152
  exact OpOk.val (.bool true) (tab_yes hL rfl rfl e148) [(150,_),(152,_)] (forall_cons e150 <| forall_cons e152 <| forall_nil) (fun ρ e ⟨c1,c2⟩=>by (try simp only[List.forall_mem_cons]at e);go_simp) ⟨Nw.refl _,rfl⟩
 ·intro a w hN old new
  obtain⟨y142,e142,g142⟩:=new 2 142 rfl rfl
  obtain rfl:y142=.bool false:=g142
  obtain⟨y148,e148,g148⟩:=new 8 148 rfl rfl
  obtain rfl:y148=.bool true:=g148
  obtain⟨y153,e153,g153⟩:=new 13 153 rfl rfl
  obtain rfl:y153=.bool true:=g153
  exact OpOk.val (.bool true) (tab_yes hL rfl rfl e142) [(148,_),(153,_)] (forall_cons e148 <| forall_cons e153 <| forall_nil) (fun ρ e ⟨c1,c2⟩=>by (try simp only[List.forall_mem_cons]at e);go_simp) ⟨Nw.refl _,rfl⟩
 ·intro a w hN old new
  obtain⟨y142,e142,g142⟩:=new 2 142 rfl rfl
  obtain rfl:y142=.bool false:=g142
  obtain⟨y154,e154,g154⟩:=new 14 154 rfl rfl
  obtain rfl:y154=.bool true:=g154
  exact OpOk.val (.bool true) (tab_yes hL rfl rfl e142) [(154,_)] (forall_cons e154 <| forall_nil) (fun ρ e ⟨c1,c2⟩=>by (try simp only[List.forall_mem_cons]at e);go_simp) ⟨Nw.refl _,rfl⟩
 ·intro a w hN old new
  obtain⟨y155,e155,g155⟩:=new 15 155 rfl rfl
  obtain rfl:y155=.bool true:=g155
  have e16:=old 16 (.pointer (some ⟨p,0,none⟩)) rfl hA16
  exact OpOk.val (.pointer (some ⟨p,0,none⟩)) (tab_yes hL rfl rfl e155) [(16,_)] (forall_cons e16 <| forall_nil) (fun ρ e ⟨c1,c2⟩=>by (try simp only[List.forall_mem_cons]at e);go_simp) ⟨Nw.refl _,rfl⟩
 ·intro a w hN old new
  obtain⟨y155,e155,g155⟩:=new 15 155 rfl rfl
  obtain rfl:y155=.bool true:=g155
  obtain⟨y156,e156,g156⟩:=new 16 156 rfl rfl
  obtain rfl:y156=.pointer (some ⟨p,0,none⟩):=g156
  refine OpOk.call (tab_yes hL rfl rfl e155) [(156,_)] (forall_cons e156 <| forall_nil) (fun ρ e ⟨c1,c2⟩=>by (try simp only[List.forall_mem_cons]at e);go_simp) (LP.out _ hN) (fun e w1 h=>?_)
  obtain⟨a,c,rfl,q1,n1⟩:=h
  exact⟨_,rfl,n1,⟨a,c,rfl,q1⟩⟩
 ·intro a w hN old new
  obtain⟨y155,e155,g155⟩:=new 15 155 rfl rfl
  obtain rfl:y155=.bool true:=g155
  have e17:=old 17 (.pointer (some ⟨q,0,none⟩)) rfl hA17
  exact OpOk.val (.pointer (some ⟨q,1,none⟩)) (tab_yes hL rfl rfl e155) [(17,_)] (forall_cons e17 <| forall_nil) (fun ρ e ⟨c1,c2⟩=>by (try simp only[List.forall_mem_cons]at e);go_simp) ⟨Nw.refl _,rfl⟩
 ·intro a w hN old new
  obtain⟨y155,e155,g155⟩:=new 15 155 rfl rfl
  obtain rfl:y155=.bool true:=g155
  obtain⟨y158,e158,g158⟩:=new 18 158 rfl rfl
  obtain rfl:y158=.pointer (some ⟨q,1,none⟩):=g158
  have hc:=hN.cell C1.out
  have hl:=Nat.lt_of_lt_of_le LQ.out hN.size
  exact OpOk.val (.slice pa Lq.l.length pc) (tab_yes hL rfl rfl e155) [(158,_)] (forall_cons e158 <| forall_nil) (fun ρ e ⟨c1,c2⟩=>by (try simp only[List.forall_mem_cons]at e);go_simp) ⟨Nw.refl _,rfl⟩
 ·intro a w hN old new
  obtain⟨y155,e155,g155⟩:=new 15 155 rfl rfl
  obtain rfl:y155=.bool true:=g155
  obtain⟨y157,e157,g157⟩:=new 17 157 rfl rfl
  obtain⟨a0,c0,rfl,q0⟩:=g157
  obtain⟨y159,e159,g159⟩:=new 19 159 rfl rfl
  obtain rfl:y159=.slice pa Lq.l.length pc:=g159
  refine OpOk.call (tab_yes hL rfl rfl e155) [(157,_),(159,_)] (forall_cons e157 <| forall_cons e159 <| forall_nil) (fun ρ e ⟨c1,c2⟩=>by (try simp only[List.forall_mem_cons]at e);go_simp) (SQ.out _ hN a0 c0 q0) (fun e w1 h=>?_)
  obtain⟨rfl,n1⟩:=h
  exact⟨_,rfl,n1,rfl⟩
 ·intro a w hN old new
  obtain⟨y142,e142,g142⟩:=new 2 142 rfl rfl
  obtain rfl:y142=.bool false:=g142
  obtain⟨y155,e155,g155⟩:=new 15 155 rfl rfl
  obtain rfl:y155=.bool true:=g155
  obtain⟨y160,e160,g160⟩:=new 20 160 rfl rfl
  obtain rfl:y160=.bool true:=g160
  exact OpOk.val (.bool true) (tab_yes hL rfl rfl e142) [(155,_),(160,_)] (forall_cons e155 <| forall_cons e160 <| forall_nil) (fun ρ e ⟨c1,c2⟩=>by (try simp only[List.forall_mem_cons]at e);go_simp) ⟨Nw.refl _,rfl⟩
 ·intro a w hN old new
  obtain⟨y142,e142,g142⟩:=new 2 142 rfl rfl
  obtain rfl:y142=.bool false:=g142
  obtain⟨y161,e161,g161⟩:=new 21 161 rfl rfl
  obtain rfl:y161=.bool true:=g161
  exact OpOk.val (.bool true) (w_none rfl) [(142,_),(161,_)] (forall_cons e142 <| forall_cons e161 <| forall_nil) (fun ρ e ⟨c1,c2⟩=>by (try simp only[List.forall_mem_cons]at e);go_simp) ⟨Nw.refl _,rfl⟩
 ·intro a w hN old new
  obtain⟨y162,e162,g162⟩:=new 22 162 rfl rfl
  obtain rfl:y162=.bool true:=g162
  exact OpOk.val (.bool true) (w_none rfl) [(162,_)] (forall_cons e162 <| forall_nil) (fun ρ e ⟨c1,c2⟩=>by (try simp only[List.forall_mem_cons]at e);go_simp) ⟨Nw.refl _,rfl⟩
 ·intro a w hN old new
  obtain⟨y163,e163,g163⟩:=new 23 163 rfl rfl
  obtain rfl:y163=.bool true:=g163
  refine OpOk.call (tab_yes hL rfl rfl e163) [] (forall_nil) (fun ρ e ⟨c1,c2⟩=>by (try simp only[List.forall_mem_cons]at e);go_simp) (AW.out _ hN) (fun e w1 h=>?_)
  obtain⟨rfl,n1⟩:=h
  exact⟨_,rfl,n1,rfl⟩
 ·intro a w hN old new
  obtain⟨y163,e163,g163⟩:=new 23 163 rfl rfl
  obtain rfl:y163=.bool true:=g163
  obtain⟨y164,e164,g164⟩:=new 24 164 rfl rfl
  obtain rfl:y164=.bool true:=g164
  exact OpOk.val (.bool true) (w_none rfl) [(163,_),(164,_)] (forall_cons e163 <| forall_cons e164 <| forall_nil) (fun ρ e ⟨c1,c2⟩=>by (try simp only[List.forall_mem_cons]at e);go_simp) ⟨Nw.refl _,rfl⟩
 ·intro a w hN old new
  obtain⟨y165,e165,g165⟩:=new 25 165 rfl rfl
  obtain rfl:y165=.bool true:=g165
  exact OpOk.val (.bool true) (w_none rfl) [(165,_)] (forall_cons e165 <| forall_nil) (fun ρ e ⟨c1,c2⟩=>by (try simp only[List.forall_mem_cons]at e);go_simp) ⟨Nw.refl _,rfl⟩
 ·intro a w hN hsz hdf old new
  obtain⟨y6,e6,g6⟩:=new 26 6 rfl
  exact tab_frame (frame_lit (dst:=[140,141,142,143,144,145,146,147,148,149,150,151,152,153,154,155,156,157,158,159,160,161,162,163,164,165,6]) (l:=[u0,u1,u2,u3,u4,u5,u6,u7,u8,u9,u10,u11,u12,u13,u14,u15,.pointer (some ⟨p,0,none⟩),.pointer (some ⟨q,0,none⟩),u18,u19,u20,u21,u22,u23,u24,u25,u26,u27,u28,u29,u30,u31,u32,u33,u34,u35,u36,u37,u38,u39,u40,u41,u42,u43,u44,u45,u46,u47,u48,u49,u50,u51,u52,u53,u54,u55,u56,u57,u58,u59,u60,u61,u62,u63,u64,u65,u66,u67,u68,u69,u70,u71,u72,u73,u74,u75,u76,u77,u78,u79,u80,u81,u82,u83,u84,u85,u86,u87,u88,u89,u90,u91,u92,u93,u94,u95,u96,u97,u98,u99,u100,u101,u102,u103,u104,u105,u106,u107,u108,u109,u110,u111,u112,u113,u114,u115,u116,u117,u118,u119,u120,u121,u122,u123,u124,u125,u126,u127,u128,u129,u130,u131,u132,u133,u134,u135,u136,u137,u138,u139,u140,u141,u142,u143,u144,u145,u146,u147,u148,u149,u150,u151,u152,u153,u154,u155,u156,u157,u158,u159,u160,u161,u162,u163,u164,u165]) hA hsz hdf old (l':=[u0,u1,u2,u3,u4,u5,(a.tmps[6]?.getD undef),u7,u8,u9,u10,u11,u12,u13,u14,u15,.pointer (some ⟨p,0,none⟩),.pointer (some ⟨q,0,none⟩),u18,u19,u20,u21,u22,u23,u24,u25,u26,u27,u28,u29,u30,u31,u32,u33,u34,u35,u36,u37,u38,u39,u40,u41,u42,u43,u44,u45,u46,u47,u48,u49,u50,u51,u52,u53,u54,u55,u56,u57,u58,u59,u60,u61,u62,u63,u64,u65,u66,u67,u68,u69,u70,u71,u72,u73,u74,u75,u76,u77,u78,u79,u80,u81,u82,u83,u84,u85,u86,u87,u88,u89,u90,u91,u92,u93,u94,u95,u96,u97,u98,u99,u100,u101,u102,u103,u104,u105,u106,u107,u108,u109,u110,u111,u112,u113,u114,u115,u116,u117,u118,u119,u120,u121,u122,u123,u124,u125,u126,u127,u128,u129,u130,u131,u132,u133,u134,u135,u136,u137,u138,u139,(a.tmps[140]?.getD undef),(a.tmps[141]?.getD undef),(a.tmps[142]?.getD undef),(a.tmps[143]?.getD undef),(a.tmps[144]?.getD undef),(a.tmps[145]?.getD undef),(a.tmps[146]?.getD undef),(a.tmps[147]?.getD undef),(a.tmps[148]?.getD undef),(a.tmps[149]?.getD undef),(a.tmps[150]?.getD undef),(a.tmps[151]?.getD undef),(a.tmps[152]?.getD undef),(a.tmps[153]?.getD undef),(a.tmps[154]?.getD undef),(a.tmps[155]?.getD undef),(a.tmps[156]?.getD undef),(a.tmps[157]?.getD undef),(a.tmps[158]?.getD undef),(a.tmps[159]?.getD undef),(a.tmps[160]?.getD undef),(a.tmps[161]?.getD undef),(a.tmps[162]?.getD undef),(a.tmps[163]?.getD undef),(a.tmps[164]?.getD undef),(a.tmps[165]?.getD undef)]) (by kernel_rfl)) (HQ.out _ _ _ _ _ _ _ _ _ _ _ _ _ _ _ _ _ _ _ _ _ _ _ _ _ _ _ w hN (by rw[e6];exact g6))
set_option maxHeartbeats 1600000
theorem rGetInt_ok {w:World}{v:Value}{b:List UInt8}(hv:Bs w v b) (hl:b.length≤14000000) (at_:Int) (h0 : -9223372036854775808≤at_) (h1:at_≤9223372036854775807){n next e:Int}(hr:getI b at_=(n,next,e)) :
  Calls Tryz.prog 147 #[v,.int .i64 at_] w fun z w'=>z=.returned (.tuple #[.int .i64 n,.int .i64 next,.int .i64 e])∧Nw w w':=by
 obtain⟨a,c,rfl,-⟩:=hv.len
 obtain⟨⟨m,nx,ee⟩,hu⟩:=zN (getU b at_)
 have HU:=zH (rGetUint_ok hv hl at_ h0 h1 hu)
 have hf:=getU_fine (b:=b) (at_:=at_)
 have he:=getU_err (b:=b) (at_:=at_)
 unfold getI at hr
 rw[hu]at hf he hr
 simp only at hf he hr
 clear hv hl hu h0 h1
 by_cases c0:ee=0
 ·subst c0
  rw[if_pos rfl]at hr
  cases hr
  have hm:m<18446744073709551616:=(hf rfl).2.2.2
  clear hf he
  have e2:((m:Int)).tmod 2=((m % 2:Nat):Int):=by rw[Int.tmod_eq_emod_of_nonneg (by omega)];omega
  have e3:((m:Int)).tdiv 2=((m / 2:Nat):Int):=by rw[Int.tdiv_eq_ediv_of_nonneg (by omega)];omega
  have e4:IntKind.i64.wrap ((m / 2:Nat):Int)=((m / 2:Nat):Int):=IntWalk.i64_in _ (by omega)
  have e5:IntKind.u64.wrap ((m / 2:Nat):Int)=((m / 2:Nat):Int):=by rw[IntKind.wrap_u64];omega
  by_cases hp:m % 2=1
  ·have hz:zag m = -1-((m / 2:Nat):Int):=by unfold zag;rw[if_neg (by omega)];omega
   have q1:(((m % 2:Nat):Int)==1)=true:=by rw[hp];rfl
   have e6:IntKind.i64.wrap (-1-((m / 2:Nat):Int)) = -1-((m / 2:Nat):Int):=IntWalk.i64_in _ (by omega)
   rw[hz]
   clear hz hp
   go_enter Tryz.func147,Tryz.ntmps147
   go_wp2_with fail
   refine HU.out.mono ?_
   rintro z w1 ⟨rfl,n1⟩
   have N1:=zH n1
   clear n1
   go_wp2
   refine bodyPost_ret (v:=.tuple #[.int .i64 (-1-((m / 2:Nat):Int)),.int .i64 next,.int .i64 0]) (by simp[results,Tryz.results147,go_sem]) rfl ⟨rfl,N1.out⟩
  ·have hz:zag m=((m / 2:Nat):Int):=by unfold zag;rw[if_pos (by omega)]
   have q1:(((m % 2:Nat):Int)==1)=false:=by rw[show m % 2=0 by omega];rfl
   rw[hz]
   clear hz hp
   go_enter Tryz.func147,Tryz.ntmps147
   go_wp2_with fail
   refine HU.out.mono ?_
   rintro z w1 ⟨rfl,n1⟩
   have N1:=zH n1
   clear n1
   go_wp2
   refine bodyPost_ret (v:=.tuple #[.int .i64 ((m / 2:Nat):Int),.int .i64 next,.int .i64 0]) (by simp[results,Tryz.results147,go_sem]) rfl ⟨rfl,N1.out⟩
 ·rw[if_neg c0]at hr
  cases hr
  have h9:=(he c0).1
  simp only[Prod.mk.injEq,and_true]at h9
  obtain⟨rfl,rfl⟩:=h9
  have q1:(e==0)=false:=by simpa using c0
  clear hf he c0
  go_enter Tryz.func147,Tryz.ntmps147
  go_wp2_with fail
  refine HU.out.mono ?_
  rintro z w1 ⟨rfl,n1⟩
  have N1:=zH n1
  clear n1
  go_wp2
  refine bodyPost_ret (v:=.tuple #[.int .i64 0,.int .i64 0,.int .i64 e]) (by simp[results,Tryz.results147,go_sem]) rfl ⟨rfl,N1.out⟩
end Go.Proofs.YtkbenkldfehhlaaGreatDoor
